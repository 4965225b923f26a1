/- ef: one: the place of a bit 1. -/
import Derived.StillTailTactics
import Derived.Deep.RegionLaw
import Derived.Test.YthaicpbdlhkkkaaEfG
import Derived.Test.YthaicpbdlhkkkaaEfT
namespace Go.Proofs.Ythaicpbdlhkkkaa.ef
open Go.RowKit Go.Proofs.Ythaicpbdlhkkkaa.own Go.Proofs.Ythaicpbdlhkkkaa.bit

theorem leadz_any (B : Bits) (hB : B.length = 64) (h : 0 < cnt B) (w : World) :
    Calls Try.prog 78 #[.int .u64 ((num B : Nat) : Int)] w fun e w' => e = .returned (.int .i64 ((lead B : Nat) : Int)) ∧ w' = w := by
  have hlt := num_lt B
  rw [hB] at hlt
  obtain ⟨h0, h1⟩ := lead_log B h
  have hl := (lead_split B h).2
  have hb := log2_bitLen (num B) h0 (by omega)
  refine (Try.bits_LeadingZeros64 (num B : Int) w (by omega) (by omega)).mono ?_
  rintro e w' ⟨rfl, rfl⟩
  refine ⟨?_, rfl⟩
  rw [Int.toNat_natCast, hb, h1, hB]
  congr 2
  omega

theorem RS.self {w w' : World} {pb xb wb n u wd hb v : Nat} {s : ByteArray} (h : RS w pb xb wb n u wd hb s v w') : RS w' pb xb wb n u wd hb s v w' :=
  ⟨h.1, Keeps.refl _ _, h.2.2⟩
theorem RS.after {w w' w2 : World} {pb xb wb n u wd hb v v2 : Nat} {s : ByteArray} (h : RS w pb xb wb n u wd hb s v w') (k : RS w' pb xb wb n u wd hb s v2 w2) : RS w pb xb wb n u wd hb s v2 w2 :=
  ⟨k.1, ⟨k.2.1.os.trans h.2.1.os, k.2.1.tape.trans h.2.1.tape, k.2.1.output.trans h.2.1.output, Nat.le_trans h.2.1.size k.2.1.size, fun b hb hS => (k.2.1.block b (Nat.lt_of_lt_of_le hb h.2.1.size) hS).trans (h.2.1.block b hb hS)⟩, k.2.2⟩
theorem RS.start (w : World) (xb : Nat) (s : ByteArray) (h : LsC w xb s) :
    RS w w.heap.size xb (w.heap.size + 1) (nS (nats s)) (uS (nats s)) (wid (nS (nats s)) (uS (nats s))) (hib (nS (nats s)) (uS (nats s))) s 0
      ((w.alloc (.cells #[.pointer (some ⟨xb, 0, none⟩)] 59)).alloc (.cells #[.int .u64 0] 62)) := by
  have hx := lt_of_block h
  have k1 := heap_alloc_new w (.cells #[.pointer (some ⟨xb, 0, none⟩)] 59)
  have k2 : (w.alloc (.cells #[.pointer (some ⟨xb, 0, none⟩)] 59)).heap.size = w.heap.size + 1 := by simp
  have kp : Below w.heap.size w (w.alloc (.cells #[.pointer (some ⟨xb, 0, none⟩)] 59)) := (Below.refl _ _).alloc (Nat.le_refl _) _
  generalize w.alloc (.cells #[.pointer (some ⟨xb, 0, none⟩)] 59) = wq at k1 k2 kp ⊢
  have kb : Below w.heap.size w (wq.alloc (.cells #[.int .u64 0] 62)) := kp.alloc (by omega) _
  have g1 : (wq.alloc (.cells #[.int .u64 0] 62)).heap[w.heap.size]? = some (.cells #[.pointer (some ⟨xb, 0, none⟩)] 59 (0, 0)) := (Below.heap_alloc _ _ _ (lt_of_block k1)).trans k1
  have g2 : (wq.alloc (.cells #[.int .u64 0] 62)).heap[w.heap.size + 1]? = some (.cells #[.int .u64 0] 62 (0, 0)) := by rw [← k2]; exact heap_alloc_new wq _
  have g3 := (kb.block xb hx).trans h
  generalize wq.alloc (.cells #[.int .u64 0] 62) = w0 at *
  refine ⟨⟨?_, ?_, ?_, ?_, ?_, ?_⟩, ⟨kb.os, kb.tape, kb.output, kb.size, fun b hb _ => kb.block b hb⟩, g2⟩
  · rw [cell_of_row _ _ _ _ _ _ g1]; rfl
  · rw [cell_of_row _ _ _ _ _ _ g3]; rfl
  · rw [cell_of_row _ _ _ _ _ _ g3]; rfl
  · rw [cell_of_row _ _ _ _ _ _ g3]; rfl
  · rw [cell_of_row _ _ _ _ _ _ g3]; rfl
  · rw [cell_of_row _ _ _ _ _ _ g3]; rfl

theorem hiS_length (s : ByteArray) (ho : opens (nats s)) : (hiS (nats s)).length = hib (nS (nats s)) (uS (nats s)) := by
  obtain ⟨_, _, _, _, h5⟩ := ho
  unfold hiS
  rw [List.length_take, unpack_length, List.length_take, List.length_drop]
  unfold sizeB at h5
  unfold highB at h5 ⊢
  omega

def OnePost (s : ByteArray) (p left : Nat) (w : World) (e : Ending) (w' : World) : Prop :=
  Below w.heap.size w w' ∧ ((∃ q, one ((hiS (nats s)).drop p) p left = some q ∧ e = .returned (.tuple #[.int .i64 (q : Int), .int .i64 0])) ∨ (one ((hiS (nats s)).drop p) p left = none ∧ e = .returned (.tuple #[.int .i64 0, .int .i64 4])))

set_option maxRecDepth 100000 in
set_option maxHeartbeats 3200000 in
theorem one_any (s : ByteArray) (hs : s.size ≤ maxLen) (ho : opens (nats s)) (p left xb : Nat) (w : World) (hp : p < 4294967296) (hl : left < 64) (h : LsC w xb s) :
    Calls Try.prog 54 #[.pointer (some ⟨xb, 0, none⟩), .int .i64 (p : Int), .int .i64 (left : Int)] w (OnePost s p left w) := by
  have R0 := Lib.hid (RS.start w xb s h)
  have hxb := lt_of_block h
  have RD := Lib.hid (fun (a pb wb v : Nat) (W : World) h1 h2 h3 h4 => read_any s hs ho a xb pb wb v W h1 h2 h3 h4)
  have HLn := Lib.hid (hiS_length s ho)
  have hh := hib_lt (nS (nats s)) (uS (nats s)) ho.2.1
  obtain ⟨H, hH⟩ : ∃ H, hiS (nats s) = H := ⟨_, rfl⟩
  unfold OnePost
  rw [hH] at RD HLn ⊢
  generalize hib (nS (nats s)) (uS (nats s)) = hbb at *
  generalize wid (nS (nats s)) (uS (nats s)) = wd at *
  generalize nS (nats s) = n at *
  generalize uS (nats s) = u at *
  clear h hH ho
  go_enter Try.func54, Try.ntmps54
  go_upto_region 4 with fail
  obtain ⟨sz, hsz⟩ : ∃ k, w.heap.size = k := ⟨_, rfl⟩
  rw [hsz] at R0 hxb ⊢
  generalize World.alloc _ _ = W0 at R0 ⊢
  have hps : sz ≠ sz + 1 := by omega
  have hxs : xb ≠ sz + 1 := by omega
  have DONE : Hid (∀ v w', RS w sz xb (sz + 1) n u wd hbb s v w' → Below w.heap.size w w') := Lib.hid (fun v w' h => ⟨h.2.1.os, h.2.1.tape, h.2.1.output, h.2.1.size, fun b hb => h.2.1.block b hb (by omega)⟩)
  go_loopw [2, 10] (fun lv av wr => ∃ l a v : Nat, lv = .int .i64 (l : Int) ∧ av = .int .i64 (a : Int) ∧ l < 64 ∧ a < 4294967296 ∧ one (H.drop a) a l = one (H.drop p) p left ∧ RS w sz xb (sz + 1) n u wd hbb s v wr)
    (fun _ av _ => hbb - (intOf av).toNat)
  case atStart => exact ⟨left, p, 0, rfl, rfl, hl, hp, rfl, R0.out⟩
  case round =>
    obtain ⟨l, a, v, rfl, rfl, hl64, ha, hone, hrs⟩ := hrel
    have HO := Lib.hid hone
    clear hone
    obtain ⟨l0, l1, l2, l3, l4, l5, hrs⟩ := hrs.mk
    by_cases hlt : a < hbb
    · have RA := Lib.hid (RD.out a sz (sz + 1) v wr hps hxs hlt hrs.self)
      obtain ⟨B, hB⟩ : ∃ B, wrd H a = B := ⟨_, rfl⟩
      have hBl : B.length = 64 := by rw [← hB]; exact wrd_length H a
      have HON := Lib.hid (wrd_on H a l)
      have HONE := Lib.hid (wrd_one H a l)
      have OC := Lib.hid (fun W => ones_any B hBl W)
      rw [hB] at RA HON HONE
      have hcl := cnt_le B
      rw [hBl] at hcl
      obtain ⟨c, hc⟩ : ∃ c, cnt B = c := ⟨_, rfl⟩
      rw [hc] at OC HON HONE hcl
      have A7 := andNot7 a (by omega)
      obtain ⟨f8, hf8⟩ : ∃ f, 8 * (a / 8) = f := ⟨_, rfl⟩
      rw [hf8] at A7 HON HONE
      have hf8l : f8 ≤ 50331648 := by omega
      have HF8 := Lib.hid hf8
      have HC := Lib.hid hc
      clear hf8 hc hB
      go_wp2_with fail
      refine RA.out.mono ?_
      rintro e w2 ⟨rfl, k2⟩
      have hrs2 := RS.after hrs k2
      clear hrs k2 l0 l1 l2 l3 l4 l5
      obtain ⟨l0, l1, l2, l3, l4, l5, hrs2⟩ := hrs2.mk
      have g2 : w2.cell? ⟨sz + 1, 0, none⟩ = some (.int .u64 ((num B : Nat) : Int)) := by rw [cell_of_row w2 _ _ _ _ _ hrs2.2.2]; rfl
      go_wp2_with fail
      refine (OC.out _).mono ?_
      rintro e w3 ⟨rfl, rfl⟩
      by_cases hcl2 : c ≤ l
      · have HN := Lib.hid (HON.out hcl2)
        go_wp2_with fail
        go_roundw
        case rel => exact ⟨l - c, f8 + 64, num B, by go_num, by go_num, by omega, by omega, by rw [← HN.out]; exact HO.out, hrs2⟩
        case measure => have := HF8.out; simp [intOf]; try omega
      · obtain ⟨r, hr1, hr2, hr3⟩ := HONE.out (by omega)
        have RES : Hid (one (H.drop p) p left = some (f8 + r)) := Lib.hid (HO.out.symm.trans hr3)
        have HB0 : Hid (l < cnt B) := Lib.hid (by rw [HC.out]; omega)
        have HR1 := Lib.hid hr1
        clear hr1 hr3 HO HON HONE l0 l1 l2 l3 l4 l5
        go_wp2_with fail
        go_loopw [2] (fun lv wr => ∃ (j : Nat) (B : Bits), lv = .int .i64 (j : Int) ∧ j < 64 ∧ j < cnt B ∧ B.length = 64 ∧ one B 0 j = some r ∧ RS w sz xb (sz + 1) n u wd hbb s (num B) wr) (fun lv _ => (intOf lv).toNat)
        case atStart => exact ⟨l, B, rfl, hl64, HB0.out, hBl, HR1.out, hrs2⟩
        case round =>
          obtain ⟨j, B, rfl, hj64, hjc, hBl, hone, hrs⟩ := hrel
          have LZ := Lib.hid (fun W => leadz_any B hBl (by omega) W)
          have hlead := (lead_split B (by omega)).2
          rw [hBl] at hlead
          have SN := strike_num B (by omega)
          rw [hBl] at SN
          have SL := Lib.hid (strike_length B (by omega))
          have SC := Lib.hid (strike_cnt B (by omega))
          have ST := Lib.hid (fun k => strike_one B 0 k (by omega))
          have OL := Lib.hid (one_lead B 0 (by omega))
          have nlt := num_lt B
          rw [hBl] at nlt
          obtain ⟨ld, hld⟩ : ∃ k, lead B = k := ⟨_, rfl⟩
          rw [hld] at LZ hlead SN OL
          have g3 : wr.cell? ⟨sz + 1, 0, none⟩ = some (.int .u64 ((num B : Nat) : Int)) := by rw [cell_of_row wr _ _ _ _ _ hrs.2.2]; rfl
          have f3 : wr.frozen? ⟨sz + 1, 0, none⟩ = false := frozen_of_row wr _ 0 _ _ hrs.2.2
          by_cases hj : j = 0
          · subst hj
            clear SN
            have HRL : Hid (ld = r) := Lib.hid (by have := OL.out; rw [hone] at this; injection this with this; omega)
            go_wp2_with fail
            refine (LZ.out _).mono ?_
            rintro e w4 ⟨rfl, rfl⟩
            go_wp2_with fail
            go_ret2
            exact ⟨DONE.out _ _ hrs, .inl ⟨f8 + r, RES.out, by rw [← HRL.out]; rfl⟩⟩
          · obtain ⟨i, rfl⟩ : ∃ i, j = i + 1 := ⟨j - 1, by omega⟩
            obtain ⟨e, he⟩ : ∃ e, 63 - ld = e := ⟨_, rfl⟩
            have e63 : 64 - 1 - ld = e := by omega
            rw [e63] at SN
            obtain ⟨pw, hpw⟩ : ∃ q, 2 ^ e = q := ⟨_, rfl⟩
            have AN := andNot_top e (num (strike B)) (by omega) SN.2
            have hpl : pw ≤ 9223372036854775808 := by
              rw [← hpw]
              calc 2 ^ e ≤ 2 ^ 63 := Nat.pow_le_pow_right (by decide) (by omega)
                _ = 9223372036854775808 := by decide
            rw [← SN.1, hpw] at AN
            have WP : IntKind.u64.wrap ((2 : Int) ^ e) = (pw : Int) := by
              rw [show ((2 : Int) ^ e) = (pw : Int) by rw [← hpw]; simp]
              exact wraps_u64_64 _ (by omega) (by omega)
            have WE : IntKind.i64.wrap (63 - (ld : Int)) = (e : Int) := by rw [IntWalk.i64_in _ (by omega)]; omega
            have hone' := Lib.hid hone
            have he63 : e ≤ 63 := by omega
            have HLD := Lib.hid hld
            clear SN hone he e63 hpw hld nlt
            go_upto_region 14 with fail
            go_region_law (first
              | (go_simp; go_at_call 78; refine (LZ.out _).mono ?_; rintro e w4 ⟨rfl, rfl⟩; dsimp only))
            all_goals
              go_wp2_with fail
              go_roundw
              case rel => exact ⟨i, strike B, by go_num, by omega, by rw [SC.out]; omega, by rw [SL.out]; exact hBl, by rw [← ST.out]; exact hone'.out, RS.store (RS.drew hrs) hps hxs _⟩
              case measure => simp [intOf]; try omega
    · have HZ : Hid (one (H.drop p) p left = none) := Lib.hid (by
        rw [← HO.out, List.drop_eq_nil_of_le (by rw [HLn.out]; omega), one])
      go_wp2_with fail
      go_ret2
      exact ⟨DONE.out _ _ hrs, .inr ⟨HZ.out, rfl⟩⟩
end Go.Proofs.Ythaicpbdlhkkkaa.ef
