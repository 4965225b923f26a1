/- The document's Build. -/
import Derived.Deep.CutRange
import Derived.Deep.RegionHeld3
import Derived.Laws.OwnMore
import Derived.Test.YthaicpbdlhkkkaaEfR
import Derived.Test.YthaicpbdlhkkkaaEfM
namespace Go.Proofs.Ythaicpbdlhkkkaa.ef
open Go.RowKit Go.Proofs.Ythaicpbdlhkkkaa.own Go.Proofs.Ythaicpbdlhkkkaa.bit

theorem own_frame {x x' : Nat → Nat} {C : Nat → Prop} {w w' : World} {base : Nat} {e : TypeId} {n : Nat} {v : Value} {xs : List Value} (h : w.ownsRow base e 1 v n xs) (hf : Fr x x' C w w') (hg : ∀ g, v.ownBlock = some g → ¬ C (x g)) : w'.ownsRow base e 1 v n xs := by
  refine ⟨h.1, ?_⟩
  rcases h.2 with h2 | ⟨g, cap, cur, hv, hb, hcell, r⟩
  · exact .inl h2
  · exact .inr ⟨g, cap, cur, hv, hb, (hf.old g (lt_of_block hcell) (hg g (by rw [hv]; rfl))).trans hcell, r⟩

/-- the document's writer of low bits and its row of high bits -/
def DB (w0 : World) (lb g m : Nat) (A H : Bits) (w' : World) : Prop :=
  ∃ x, Fr (fun _ => 100) x (fun c => c < 70) w0 w' ∧ DW x 1 w' lb A ∧ x g = 60 ∧ w'.ownsRow 0 4 1 (.slice (some ⟨g, 0, none⟩) m m) m (bls H)
theorem DB.below {w0 w' : World} {lb g m : Nat} {A H : Bits} (h : DB w0 lb g m A H w') : Below w0.heap.size w0 w' := by
  obtain ⟨x, hf, _⟩ := h
  exact fr_below hf (fun b _ => by show ¬ (100 : Nat) < 70; decide)
theorem DB.next {w0 w' w2 : World} {lb g m : Nat} {A H : Bits} (h : DB w0 lb g m A H w') (k : Below w'.heap.size w' w2) : DB w0 lb g m A H w2 := by
  obtain ⟨x, hf, hd, hg, ho⟩ := h
  have f2 : Fr x (paint x w'.heap.size 49) (fun c => c = 49) w' w2 := Fr.of_below k rfl
  have hgl : g < w'.heap.size := (ho.lt g rfl).2
  refine ⟨_, hf.trans (f2.mono (fun c hc => by subst hc; decide)), hd.frame f2 (by decide), by rw [paint_old hgl]; exact hg, own_below ho k⟩
theorem DB.store {w0 w' : World} {lb g m : Nat} {A H : Bits} (h : DB w0 lb g m A H w') (p : Nat) : DB w0 lb g m A (H.set p true) (w'.setCell ⟨g, p, none⟩ (.bool true)) := by
  obtain ⟨x, hf, hd, hg, ho⟩ := h
  have f2 : Fr x x (fun c => c = 60) w' (w'.setCell ⟨g, p, none⟩ (.bool true)) := Fr.same rfl rfl rfl (by simp) (fun d _ hd => Below.heap_setCell _ _ _ _ (fun e => hd (by rw [e]; exact hg)))
  refine ⟨x, hf.trans (f2.mono (fun c hc => by subst hc; decide)), hd.frame f2 (by decide), hg, ?_⟩
  have h1 := (ho.stored p (.bool true)).1
  have e : (bls H).set p (.bool true) = bls (H.set p true) := by unfold bls; rw [List.map_set]
  rw [e] at h1
  exact h1
theorem db_put (w0 w : World) (lb g m : Nat) (A H : Bits) (v n : Nat) (hv : v < 2 ^ n) (hn : n ≤ 64) (h : DB w0 lb g m A H w) :
    Calls Try.prog 83 #[.pointer (some ⟨lb, 0, none⟩), .int .u64 (v : Int), .int .i64 (n : Int)] w fun e w' => (∃ k : Int, e = .returned (.int .i64 k)) ∧ DB w0 lb g m (if A.length + n ≤ 134217728 then A ++ ofN n v else A) H w' := by
  obtain ⟨x, hf, hd, hg, ho⟩ := h
  refine (dput_any x 1 w lb A v n hv hn hd).mono ?_
  rintro e w' ⟨he, x', f2, hd2⟩
  have hgl : g < w.heap.size := (ho.lt g rfl).2
  refine ⟨he, x', hf.trans (f2.mono (fun c hc => by subst hc; decide)), hd2, by rw [f2.col g hgl]; exact hg, own_frame ho f2 (fun b hb => ?_)⟩
  have : g = b := by injection hb
  subst this
  rw [hg]
  decide

theorem DB.cell {w0 w' : World} {lb g m : Nat} {A H : Bits} (h : DB w0 lb g m A H w') (p : Nat) (hp : p < m) : (∃ u, w'.cell? ⟨g, p, none⟩ = some u) ∧ w'.frozen? ⟨g, p, none⟩ = false := by
  obtain ⟨x, hf, hd, hg, ho⟩ := h
  have hl := ho.1
  rw [Nat.mul_one] at hl
  refine ⟨⟨(bls H)[p]'(by omega), ?_⟩, ho.frozenAt p⟩
  rw [ho.cellAt p (by omega), List.getElem?_eq_getElem (by omega)]
theorem bls_zeros (n : Nat) : (madeCells (Value.bool false).cells (n * 1)).toList = bls (List.replicate n false) := by
  have e : (Value.bool false).cells = #[.bool false] := rfl
  rw [e, toList_madeCells_one]
  simp [bls]

theorem DB.start (w0 w1 : World) (m : Nat) (H : Bits) (own : w1.ownsRow w0.heap.size 4 1 (.slice (some ⟨w0.heap.size, 0, none⟩) m m) m (bls H)) (hg : w0.grownBy w1 none) :
    DB w0 w1.heap.size w0.heap.size m [] H (w1.alloc (.cells #[.slice none 0 0] 128)) := by
  have k1 : Below w0.heap.size w0 w1 := ⟨hg.os, hg.tape, hg.output, hg.size, fun b hb => hg.block b hb (by simp)⟩
  have hlt := (own.lt w0.heap.size rfl).2
  have k2 : Below w0.heap.size w0 (w1.alloc (.cells #[.slice none 0 0] 128)) := k1.alloc k1.size _
  refine ⟨fun b => if b < w0.heap.size then 100 else if b = w0.heap.size then 60 else 1, ⟨k2.os, k2.tape, k2.output, k2.size, fun b hb => if_pos hb, fun b h1 h2 => ?_, fun b hb _ => k2.block b hb⟩, ?_, ?_, ?_⟩
  · show (if b < w0.heap.size then 100 else if b = w0.heap.size then 60 else 1) < 70
    rw [if_neg (by omega)]
    split <;> decide
  · refine ⟨.slice none 0 0, heap_alloc_new w1 _, ?_, World.ownsRow_nil _ _ _ _, fun g hg => (by cases hg), Nat.zero_le _⟩
    show (if w1.heap.size < w0.heap.size then 100 else if w1.heap.size = w0.heap.size then 60 else 1) = 1
    rw [if_neg (by omega), if_neg (by omega)]
  · show (if w0.heap.size < w0.heap.size then 100 else if w0.heap.size = w0.heap.size then 60 else 1) = 60
    rw [if_neg (Nat.lt_irrefl _), if_pos rfl]
  · exact own_base (own.alloc _) (Nat.zero_le _)

set_option maxRecDepth 100000 in
set_option maxHeartbeats 6400000 in
theorem dbuild_any (w : World) (v : Value) (L : List Nat) (h : RU w v L) (hl : L.length ≤ 16777216) : Calls Try.prog 62 #[v] w (BuildPost L w) := by
  have MA := Lib.hid (dmay_any w v L h (by omega))
  have HRU := Lib.hid h
  obtain ⟨a0, cap, rfl, hcap, -⟩ := h
  obtain ⟨n, hn⟩ : ∃ n, L.length = n := ⟨_, rfl⟩
  have HN := Lib.hid hn
  rw [hn] at hl hcap MA HRU ⊢
  clear hn
  unfold MayPost at MA
  unfold BuildPost
  go_enter Try.func62, Try.ntmps62
  go_wp2_with fail
  refine MA.out.mono ?_
  rintro e w1 ⟨k1, b, rfl, hb⟩
  cases b with
  | false =>
    have NO : Hid (¬ mayS L) := Lib.hid (fun h => by have := hb.2 h; cases this)
    go_wp2_with fail
    go_ret2
    exact ⟨k1, .inr ⟨NO.out, rfl⟩⟩
  | true =>
    have hm := hb.1 rfl
    have HM := Lib.hid hm
    have HR1 := Lib.hid (HRU.out.below k1)
    clear hb MA HRU
    have hun : n = 0 ↔ uL L = 0 := by
      have := HN.out
      unfold uL
      by_cases h0 : n = 0
      · simp [this, h0]
      · rw [if_neg (by omega)]; omega
    have hul : uL L ≤ 281474976710655 := by
      have h1 := HN.out
      unfold uL
      split
      · omega
      · have := (hm.2 (L.length - 1) (by omega)).1
        unfold most at this
        omega
    have FO := Lib.hid (fun W => of_both n (uL L) hl (by omega) hun W)
    unfold formV at FO
    have hwl := wid_le n (uL L) (by omega)
    have hwL : Hid (wL L = wid n (uL L)) := Lib.hid (by unfold wL; rw [HN.out])
    have hh := hib_lt n (uL L) hl
    obtain ⟨u, hu⟩ : ∃ u, uL L = u := ⟨_, rfl⟩
    have HU := Lib.hid hu
    have PL := Lib.hid (fun k hk => place_lt hm k hk)
    have HR0 := Lib.hid (hrow_zero L)
    have HRS := Lib.hid (fun k hk => hrow_step hm k hk)
    have HRA := Lib.hid (hrow_all hm)
    rw [HN.out, hwL.out] at PL HRS HRA
    rw [HN.out] at HR0
    have XS := Lib.hid (fun k hk => (hm.2 k hk).1)
    rw [HN.out] at XS
    rw [hu] at FO hul hwl hh PL HR0 HRS HRA hun
    have ULG : Hid (0 < n → L.getD (n - 1) 0 + 1 = u) := Lib.hid (fun h0 => by rw [← hu, uL_get (by rw [HN.out]; exact h0), HN.out])
    have BE : Hid (build L = packN (ofN 32 n) ++ packN (ofN 64 u) ++ packN (lo (wid n u) L n) ++ packN (hrow L n) ++ packN (sm (wid n u) L n)) := Lib.hid (by
      unfold build
      rw [hwL.out, HN.out, hu, packN_append 4 _ _ (by rw [ofN_length]), HRA.out])
    generalize hib n u = hbb at *
    generalize wid n u = wd at *
    clear hu hm hwL
    go_upto_if 16 with fail
    go_cut [4] from 16 to 23 (fun s4 wc => s4 = .int .u64 (u : Int) ∧ w1 = wc)
    case first =>
      by_cases h0 : n = 0
      · have hu0 := hun.1 h0
        have hn0 : ¬ (0 : Int) < (n : Int) := by omega
        have hn0n : ¬ 0 < n := by omega
        have HU0 := Lib.hid hu0
        clear hun hu0 h0
        go_wp2_with fail
        go_meet
        case rel => exact ⟨by rw [HU0.out]; rfl, rfl⟩
      · have hn0 : (0 : Int) < (n : Int) := by omega
        obtain ⟨g, rfl, hcell⟩ := HR1.out.cell (n - 1) (by rw [HN.out]; omega)
        obtain ⟨x, hx⟩ : ∃ x, L.getD (n - 1) 0 = x := ⟨_, rfl⟩
        rw [hx] at hcell
        have hxu : x + 1 = u := by rw [← hx]; exact ULG.out (by omega)
        have WN : IntKind.i64.wrap ((n : Int) - 1) = ((n - 1 : Nat) : Int) := by rw [IntWalk.i64_in _ (by omega)]; omega
        have WX : IntKind.u64.wrap ((x : Int) + 1) = (u : Int) := by rw [wraps_u64_64 _ (by omega) (by omega)]; omega
        have hnn : ((n - 1 : Nat) : Int) < (n : Int) := by omega
        obtain ⟨n1, hn1⟩ : ∃ m, n - 1 = m := ⟨_, rfl⟩
        rw [hn1] at WN hnn hcell
        have XU : (x : Int) + 1 = (u : Int) := by omega
        have N1 : (n : Int) - 1 = (n1 : Int) := by omega
        clear hx hxu hn1 hun
        go_wp2_with fail
        go_meet
        case rel => exact ⟨rfl, rfl⟩
    case rest =>
      obtain ⟨rfl, rfl⟩ := hcut
      clear hun
      go_wp2_with fail
      refine (FO.out _).mono ?_
      rintro e w2 ⟨rfl, k2⟩
      have K2 := Lib.hid (below_next k1 k2)
      have HR2 := Lib.hid (HR1.out.below k2)
      clear k2 k1 HR1 FO
      go_upto_region 7 with fail
      have F0 := DS.start w2 n u wd hbb
      have ka : Below w2.heap.size w2 (w2.alloc (.cells #[.int .i64 (n : Int), .int .u64 (u : Int), .int .i64 (wd : Int), .int .i64 (hbb : Int)] 64)) := (Below.refl _ _).alloc (Nat.le_refl _) _
      generalize hw3 : w2.alloc _ = w3 at F0 ka ⊢
      clear hw3
      have K3 := Lib.hid (below_next K2.out ka)
      have HR3 := Lib.hid (HR2.out.below ka)
      have MK := Lib.hid (fun W (k : Below w3.heap.size w3 W) => F0.cells k)
      obtain ⟨f0, f1, f2, f3, -⟩ := F0.mk
      clear F0 ka HR2 K2 f0 f1 f2
      obtain ⟨i0, hi, hz0, hz1, hz2⟩ := info_parts Try.infoBool
      obtain ⟨w4, hrun, hown, hg⟩ := run_make_full w3 w3.heap.size 104 4 i0 _ 1 Try.underlying104 hi hz0 hz1 .i64 .i64 hbb (by rw [hz2]; omega) (by simp only [maxLen]; omega) (Nat.le_refl _)
      rw [bls_zeros, ← HR0.out] at hown
      have D0 := DB.start w3 w4 hbb _ hown hg
      have hrun1 : (Instr.makeSlice 104 (.int .i64 (hbb : Int)) (.int .i64 (hbb : Int))).run Try.prog w3 = .ok (.slice (some ⟨w3.heap.size, 0, none⟩) hbb hbb) w4 := hrun
      clear hrun hown hg hi hz0 hz1 hz2
      go_wp2_with fail
      obtain ⟨hg, hhg⟩ : ∃ g, w3.heap.size = g := ⟨_, rfl⟩
      obtain ⟨lb, hlb⟩ : ∃ g, w4.heap.size = g := ⟨_, rfl⟩
      rw [hhg, hlb] at D0 ⊢
      clear hhg hlb hrun1
      generalize World.alloc w4 _ = W5 at D0 ⊢
      clear f3
      obtain ⟨S0, hS0⟩ : ∃ S, (⟨#[]⟩ : ByteArray) = S := ⟨_, rfl⟩
      have D0 : DB w3 lb hg hbb (lo wd L 0) (hrow L 0) W5 := D0
      go_loopw [8, 9] (fun sv iv wr => ∃ (k : Nat) (S : ByteArray), k ≤ n ∧ iv = .int .i64 (k : Int) ∧ sv = .string S ∧ S = txt (packN (sm wd L k)) ∧ DB w3 lb hg hbb (lo wd L k) (hrow L k) wr)
        (fun _ iv _ => n - (intOf iv).toNat)
      case atStart => exact ⟨0, _, Nat.zero_le _, rfl, rfl, by rw [sm, packN_nil]; rfl, D0⟩
      case round =>
        obtain ⟨k, S, hk, rfl, rfl, hSS, hdb⟩ := hrel
        have HS := Lib.hid hSS
        clear hSS hS0
        by_cases hlt : k < n
        · have hkL : k < L.length := by rw [HN.out]; exact hlt
          obtain ⟨g, rfl, hcell⟩ := HR3.out.cell k hkL
          have CK := Lib.hid hcell
          have hcell := cell_keep hdb.below hcell
          obtain ⟨x, hx⟩ : ∃ x, L.getD k 0 = x := ⟨_, rfl⟩
          rw [hx] at hcell CK
          have hxm : x ≤ 281474976710654 := by have := XS.out k hlt; rw [hx] at this; exact this
          have hpl := PL.out k hlt
          have HRK := Lib.hid (HRS.out k hlt)
          have LN := Lib.hid (lo_next wd L k)
          have SN := Lib.hid (fun h => sm_pack wd L k h)
          have SN2 := Lib.hid (fun h => sm_stay wd L k h)
          have SZ := Lib.hid (sm_length wd L k)
          rw [hx] at hpl LN SN HRK
          obtain ⟨y, hy⟩ : ∃ y, x % 2 ^ wd = y := ⟨_, rfl⟩
          have hyl : y < 2 ^ wd := by rw [← hy]; exact Nat.mod_lt _ (Nat.pow_pos (by decide))
          have hls := low_sub x wd
          rw [hy] at LN hls
          obtain ⟨q, hq⟩ : ∃ q, x / 2 ^ wd = q := ⟨_, rfl⟩
          have QI : (x : Int) / 2 ^ wd = (q : Int) := by rw [← hq]; simp
          rw [hq] at hpl SN hls HRK
          obtain ⟨z, hz⟩ : ∃ z, q * 2 ^ wd = z := ⟨_, rfl⟩
          have ZI : (q : Int) * 2 ^ wd = (z : Int) := by rw [← hz]; simp
          have hzx : z ≤ x := by rw [← hz, ← hq]; exact Nat.div_mul_le_self _ _
          rw [hz] at hls
          have XZ : (x : Int) - (z : Int) = (y : Int) := by omega
          have HX := Lib.hid hx
          have hql : q < 50331648 := by omega
          obtain ⟨p, hp⟩ : ∃ p, q + k = p := ⟨_, rfl⟩
          rw [hp] at hpl SN HRK
          have QK : (q : Int) + (k : Int) = (p : Int) := by omega
          have hpi : (p : Int) < (hbb : Int) := by omega
          clear hx hy hq hz hls hp
          have W1 : IntKind.u64.wrap (z : Int) = (z : Int) := wraps_u64_64 _ (by omega) (by omega)
          have W2 : IntKind.u64.wrap (y : Int) = (y : Int) := wraps_u64_64 _ (by omega) (by omega)
          have W3 : IntKind.i64.wrap (p : Int) = (p : Int) := IntWalk.i64_in _ (by omega)
          have W4 : IntKind.i64.wrap (q : Int) = (q : Int) := IntWalk.i64_in _ (by omega)
          obtain ⟨-, -, f2, -, -⟩ := MK.out _ hdb.below
          go_upto_region 13 with fail
          go_region
          go_upto_region 14 with fail
          have D1 := hdb.next (Below.drew (Below.refl _ _))
          obtain ⟨⟨u1, cu⟩, fu⟩ := D1.cell p hpl
          go_upto_region 15 with fail
          have D2 := (hdb.store p).next (Below.drew (Below.refl _ _))
          rw [HRK.out] at D2
          generalize (wr.setCell ⟨hg, p, none⟩ (.bool true)).drew = W6 at D2 ⊢
          have P1 : Hid (∀ W, DB w3 lb hg hbb (lo wd L k) (hrow L (k + 1)) W → Calls Try.prog 83 #[.pointer (some ⟨lb, 0, none⟩), .int .u64 (y : Int), .int .i64 (wd : Int)] W fun e w' => (∃ k : Int, e = .returned (.int .i64 k)) ∧ DB w3 lb hg hbb (lo wd L (k + 1)) (hrow L (k + 1)) w') := Lib.hid (fun W h => by
            rw [LN.out]
            exact db_put w3 W lb hg hbb (lo wd L k) _ y wd hyl (by omega) h)
          obtain ⟨-, -, f6, -, -⟩ := MK.out _ D2.below
          have c6 := cell_keep D2.below CK.out
          have D3 := D2.next (Below.drew (Below.refl _ _))
          clear f2 hcell cu fu D1 hdb D0 QK
          go_region_held3 (fun w' => w'.cell? ⟨w2.heap.size, 2, none⟩ = some (.int .i64 (wd : Int)) ∧ w'.cell? ⟨g, k, none⟩ = some (.int .u64 (x : Int)))
            (first | exact ⟨f6, c6⟩ | exact ⟨by assumption, by assumption⟩)
            (first
              | (go_at_call 83; refine (P1.out _ D3).mono ?_; rintro e w7 ⟨⟨e7, rfl⟩, b7⟩; obtain ⟨_, _, f7, _, -⟩ := MK.out _ b7.below; have c7 := cell_keep b7.below CK.out))
          clear f6 c6 P1 D2 D3 W1 W2 QI ZI XZ
          by_cases h64 : k % 64 = 0
          · have KT : (k : Int).tmod 64 = 0 := by rw [Int.tmod_eq_emod_of_nonneg (by omega)]; omega
            have WP : IntKind.u64.wrap (p : Int) = (p : Int) := wraps_u64_64 _ (by omega) (by omega)
            have NU := Lib.hid (fun W => dnumber_any p 4 (by decide) (by omega) W)
            have SP := SN.out h64
            obtain ⟨T, hT⟩ : ∃ T, txt (packN (ofN (8 * 4) p)) = T := ⟨_, rfl⟩
            rw [hT] at NU
            have AP : Hid (S ++ T = txt (packN (sm wd L (k + 1)))) := Lib.hid (by rw [HS.out, ← hT, txt_append, SP])
            have hsz : S.size + T.size ≤ 9223372036854775807 := by
              rw [HS.out, ← hT, txt_size, txt_size, packN_length, packN_length, SZ.out, ofN_length]
              omega
            obtain ⟨S2, hS2⟩ : ∃ S2, S ++ T = S2 := ⟨_, rfl⟩
            rw [hS2] at AP
            have HS2 := Lib.hid hS2
            clear h64 SP hT hS2
            go_wp2_with fail
            refine (NU.out _).mono ?_
            rintro e w8 ⟨rfl, k8⟩
            have D8 := b7.next k8
            go_wp2_with fail
            rw [HS2.out]
            go_roundw
            case rel => exact ⟨k + 1, S2, by omega, by go_num, rfl, AP.out, D8⟩
            case measure => simp [intOf]; try omega
          · obtain ⟨k6, hk6⟩ : ∃ m, k % 64 = m := ⟨_, rfl⟩
            have KT : (k : Int).tmod 64 = (k6 : Int) := by rw [Int.tmod_eq_emod_of_nonneg (by omega)]; omega
            have K6 : ((k6 : Int) == 0) = false := beq_eq_false_iff_ne.2 (by omega)
            have AP : Hid (S = txt (packN (sm wd L (k + 1)))) := Lib.hid (by rw [HS.out, SN2.out h64])
            clear h64 hk6
            go_wp2_with fail
            go_roundw
            case rel => exact ⟨k + 1, S, by omega, by go_num, rfl, AP.out, b7⟩
            case measure => simp [intOf]; try omega
        · obtain rfl : k = n := by omega
          obtain ⟨x, hf, ⟨v1, hv1, -, ho1, -, hlo⟩, -, ho2⟩ := hdb
          have KB : Below w3.heap.size w3 wr := fr_below hf (fun b _ => by show ¬ (100 : Nat) < 70; decide)
          obtain ⟨f0, -, -, -, -⟩ := MK.out _ KB
          have cv : wr.cell? ⟨lb, 0, none⟩ = some v1 := by rw [cell_of_row _ _ _ _ _ _ hv1]; rfl
          have hhl : (hrow L k).length = hbb := by have := ho2.1; simpa [bls] using this
          have KW := Lib.hid (below_next K3.out KB)
          have C0 := Lib.hid f0
          have CV := Lib.hid cv
          have NU1 := Lib.hid (fun W => dnumber_any k 4 (by decide) (by omega) W)
          have NU2 := Lib.hid (fun W => dnumber_any u 8 (by decide) (by omega) W)
          have TX1 := Lib.hid (fun W (h : Below wr.heap.size wr W) => Text_any W 0 v1 (lo wd L k) (by omega) (own_below ho1 h))
          have TX2 := Lib.hid (fun W (h : Below wr.heap.size wr W) => Text_any W 0 (.slice (some ⟨hg, 0, none⟩) hbb hbb) (hrow L k) (by omega) (by rw [hhl]; exact own_below ho2 h))
          have BL := BE.out
          have zA : (packN (ofN 32 k)).length ≤ 16777216 := by rw [packN_length, ofN_length]; omega
          have zB : (packN (ofN 64 u)).length ≤ 16777216 := by rw [packN_length, ofN_length]; omega
          have zC : (packN (lo wd L k)).length ≤ 16777216 := by rw [packN_length]; omega
          have zD : (packN (hrow L k)).length ≤ 16777216 := by rw [packN_length, hhl]; omega
          have zE : (packN (sm wd L k)).length ≤ 16777216 := by rw [packN_length, sm_length]; omega
          have hSS := HS.out
          have e32 : ofN (8 * 4) k = ofN 32 k := rfl
          have e64 : ofN (8 * 8) u = ofN 64 u := rfl
          rw [e32] at NU1
          rw [e64] at NU2
          generalize packN (ofN 32 k) = A at NU1 BL zA
          generalize packN (ofN 64 u) = B at NU2 BL zB
          generalize packN (lo wd L k) = C at TX1 BL zC
          generalize packN (hrow L k) = D at TX2 BL zD
          generalize packN (sm wd L k) = E at hSS BL zE
          obtain ⟨SA, hSA⟩ : ∃ S, txt A = S := ⟨_, rfl⟩
          obtain ⟨SB, hSB⟩ : ∃ S, txt B = S := ⟨_, rfl⟩
          obtain ⟨SC, hSC⟩ : ∃ S, txt C = S := ⟨_, rfl⟩
          obtain ⟨SD, hSD⟩ : ∃ S, txt D = S := ⟨_, rfl⟩
          have aA : SA.size ≤ 16777216 := by rw [← hSA, txt_size]; exact zA
          have aB : SB.size ≤ 16777216 := by rw [← hSB, txt_size]; exact zB
          have aC : SC.size ≤ 16777216 := by rw [← hSC, txt_size]; exact zC
          have aD : SD.size ≤ 16777216 := by rw [← hSD, txt_size]; exact zD
          have aE : S.size ≤ 16777216 := by rw [hSS, txt_size]; exact zE
          have y1 : ¬ 9223372036854775807 < SA.size + SB.size := by omega
          have y2 : ¬ 9223372036854775807 < (SA ++ SB).size + SC.size := by rw [ByteArray.size_append]; omega
          have y3 : ¬ 9223372036854775807 < (SA ++ SB ++ SC).size + SD.size := by rw [ByteArray.size_append, ByteArray.size_append]; omega
          have y4 : ¬ 9223372036854775807 < (SA ++ SB ++ SC ++ SD).size + S.size := by rw [ByteArray.size_append, ByteArray.size_append, ByteArray.size_append]; omega
          have x2 : ¬ 9223372036854775807 < SA.size + SB.size + SC.size := by omega
          have x3 : ¬ 9223372036854775807 < SA.size + SB.size + SC.size + SD.size := by omega
          have x4 : ¬ 9223372036854775807 < SA.size + SB.size + SC.size + SD.size + S.size := by omega
          have RES : Hid (SA ++ SB ++ SC ++ SD ++ S = txt (build L)) := Lib.hid (by rw [← hSA, ← hSB, ← hSC, ← hSD, hSS, BL, txt_append, txt_append, txt_append, txt_append])
          rw [hSA] at NU1
          rw [hSB] at NU2
          rw [hSC] at TX1
          rw [hSD] at TX2
          clear hSA hSB hSC hSD hSS zA zB zC zD zE BL hf hv1 ho1 hlo ho2 KB hhl D0 e32 e64
          have WK : IntKind.u64.wrap (k : Int) = (k : Int) := wraps_u64_64 _ (by omega) (by omega)
          go_upto_region 18 with fail
          have KK := Below.refl wr.heap.size wr
          have MF := Lib.hid (fun W (h : Below wr.heap.size wr W) => (⟨cell_keep h C0.out, cell_keep h CV.out, h⟩ : W.cell? ⟨w2.heap.size, 0, none⟩ = some (.int .i64 (k : Int)) ∧ W.cell? ⟨lb, 0, none⟩ = some v1 ∧ Below wr.heap.size wr W))
          go_region_held3 (fun w' => w'.cell? ⟨w2.heap.size, 0, none⟩ = some (.int .i64 (k : Int)) ∧ w'.cell? ⟨lb, 0, none⟩ = some v1 ∧ Below wr.heap.size wr w')
            (first
              | exact MF.out _ (by assumption)
              | exact MF.out _ (Below.drew (by assumption))
              | exact MF.out _ (And.right (And.right (by assumption)))
              | exact MF.out _ (Below.drew (And.right (And.right (by assumption)))))
            (first
              | (go_at_call_of 84 (Value.int IntKind.u64 (k : Int)); refine (NU1.out _).mono ?_; rintro e w7 ⟨rfl, k1⟩; first | have k7 := below_next (by assumption) k1 | have k7 := below_next (Below.drew (by assumption)) k1)
              | (go_at_call_of 84 (Value.int IntKind.u64 (u : Int)); refine (NU2.out _).mono ?_; rintro e w7 ⟨rfl, k1⟩; first | have k7 := below_next (by assumption) k1 | have k7 := below_next (Below.drew (by assumption)) k1)
              | (go_at_call_of 85 (Value.slice (some ⟨hg, 0, none⟩) hbb hbb); refine (TX2.out _ (by assumption)).mono ?_; rintro e w7 ⟨rfl, k1⟩; first | have k7 := below_next (by assumption) k1 | have k7 := below_next (Below.drew (by assumption)) k1)
              | (go_at_call_of 85 v1; refine (TX1.out _ (by assumption)).mono ?_; rintro e w7 ⟨rfl, k1⟩; first | have k7 := below_next (by assumption) k1 | have k7 := below_next (Below.drew (by assumption)) k1))
          have KE := Lib.hid (below_next KW.out k7)
          clear KK k1 k7 y1 y2 y3 y4 x2 x3 x4
          go_wp2_with fail
          go_ret2
          exact ⟨KE.out, .inl ⟨HM.out, by rw [← RES.out]; rfl⟩⟩
end Go.Proofs.Ythaicpbdlhkkkaa.ef
