/- ef: All, and the document's. -/
import Derived.Test.YthaicpbdlhkkkaaEfU
namespace Go.Proofs.Ythaicpbdlhkkkaa.ef
open Go.RowKit Go.Proofs.Ythaicpbdlhkkkaa.own Go.Proofs.Ythaicpbdlhkkkaa.bit

theorem Try.infoU64 : (Try.prog.info? 62).map (fun i => (i.zero, i.size, i.bytes)) = some (some (.int .u64 0), 1, 8) := by kernel_rfl
theorem txt_nats (s : ByteArray) : txt (nats s) = s := by
  apply ByteArray.ext
  unfold txt nats
  rw [List.map_map]
  have e : (UInt8.ofNat ∘ UInt8.toNat) = id := by funext b; simp
  rw [e, List.map_id]
theorem nats_txt (l : List Nat) (h : ∀ x ∈ l, x < 256) : nats (txt l) = l := by
  unfold txt nats
  rw [List.map_map]
  conv => rhs; rw [← List.map_id l]
  apply List.map_congr_left
  intro x hx
  have := h x hx
  simp
  omega
theorem build_lt (L : List Nat) : ∀ x ∈ build L, x < 256 := by
  intro x hx
  unfold build at hx
  simp only [List.mem_append] at hx
  rcases hx with ((hx | hx) | hx) | hx <;> exact packN_lt _ x hx
theorem txt_build_ne {L : List Nat} {s : ByteArray} (h : build L ≠ nats s) : txt (build L) ≠ s := by
  intro e
  apply h
  rw [← e, nats_txt _ (build_lt L)]

theorem bytes_ne {a b : ByteArray} (h : a ≠ b) : (a.toList == b.toList) = false := by
  rw [ByteArray.toList_eq, ByteArray.toList_eq]
  exact beq_eq_false_iff_ne.2 (fun e => h (ByteArray.ext (Array.toList_inj.1 e)))
/-- all numbers that bytes tell -/
def allL (s : List Nat) : List Nat := (List.range (nS s)).map (gv s)
theorem allL_length (s : List Nat) : (allL s).length = nS s := by simp [allL]
theorem allL_next (s : List Nat) (k : Nat) (h : k < nS s) : (allL s).take (k + 1) = (allL s).take k ++ [gv s k] := by
  rw [List.take_succ_eq_append_getElem (by rw [allL_length]; exact h)]
  simp [allL]
theorem ivs_snoc (l : List Nat) (v : Nat) : ivs l ++ [.int .u64 (v : Int)] = ivs (l ++ [v]) := by simp [ivs]
theorem one_u64 (v : Int) : ∀ u ∈ [Value.int .u64 v], u.oneCell' = true := by intro u hu; simp at hu; subst hu; rfl
/-- bytes that are a list's -/
def okS (s : List Nat) : Prop := (∀ i, i < nS s → getS s i ≠ none) ∧ mayS (allL s) ∧ build (allL s) = s
def AllPost (s : ByteArray) (w : World) (e : Ending) (w' : World) : Prop :=
  Below w.heap.size w w' ∧ ((okS (nats s) ∧ ∃ v, e = .returned (.tuple #[v, .int .i64 0]) ∧ w'.ownsRow w.heap.size 62 1 v (allL (nats s)).length (ivs (allL (nats s)))) ∨
    (¬ okS (nats s) ∧ e = .returned (.tuple #[.slice none 0 0, .int .i64 4])))

set_option maxRecDepth 100000 in
set_option maxHeartbeats 3200000 in
theorem all_any (s : ByteArray) (hs : s.size ≤ maxLen) (ho : opens (nats s)) (xb : Nat) (w : World) (h : LsC w xb s) :
    Calls Try.prog 33 #[.pointer (some ⟨xb, 0, none⟩)] w (AllPost s w) := by
  obtain ⟨i0, hi, hz0, hz1, hz2⟩ := info_parts Try.infoU64
  have L0 := Lib.hid (LB.start h)
  have hn := ho.2.1
  have MK := Lib.hid (fun W (hW : LB w xb s W) => hW.mk)
  have GT := Lib.hid (fun i W hi hW => get_in s hs ho i xb W hi hW)
  have AN := Lib.hid (allL_next (nats s))
  have AL := Lib.hid (allL_length (nats s))
  have OKD : Hid (okS (nats s) ↔ (∀ i, i < nS (nats s) → getS (nats s) i ≠ none) ∧ mayS (allL (nats s)) ∧ build (allL (nats s)) = nats s) := Lib.hid Iff.rfl
  have GV : Hid (∀ i v, getS (nats s) i = some v → gv (nats s) i = v) := Lib.hid (fun i v h => by unfold gv; rw [h]; rfl)
  have GL : Hid (∀ i v, getS (nats s) i = some v → v < 18446744073709551616) := Lib.hid (fun i v h => by have := getS_lt h; have := ho.2.2.1; omega)
  have hsz : s.size ≤ 9223372036854775807 := by unfold maxLen at hs; omega
  have RA := Lib.hid (fun W => efT.readAt_yes s 0 s.size hs (by omega) W)
  have EX : s.extract 0 (0 + s.size) = s := by rw [Nat.zero_add]; simp
  rw [EX] at RA
  have LE := Lib.hid (fun W => efT.length_any s W)
  have BU := Lib.hid (fun W v h => build_any W v (allL (nats s)) h (by rw [allL_length]; exact hn))
  have TE := Lib.hid (txt_nats s)
  have TN : Hid (build (allL (nats s)) ≠ nats s → txt (build (allL (nats s))) ≠ s) := Lib.hid txt_build_ne
  unfold AllPost
  unfold BuildPost at BU
  rw [AL.out]
  have HOP := Lib.hid ho
  generalize allL (nats s) = A at *
  generalize hib (nS (nats s)) (uS (nats s)) = hbb at *
  generalize wid (nS (nats s)) (uS (nats s)) = wd at *
  generalize nS (nats s) = n at *
  generalize uS (nats s) = u at *
  clear h ho EX
  go_enter Try.func33, Try.ntmps33
  obtain ⟨c0, -, -, -, -, -⟩ := MK.out _ L0.out
  go_wp2_with fail
  clear c0
  go_loopw [4, 19] (fun v iv wr => ∃ k : Nat, k ≤ n ∧ iv = .int .i64 (k : Int) ∧ wr.ownsRow w.heap.size 62 1 v k (ivs (A.take k)) ∧ (∀ i, i < k → getS (nats s) i ≠ none) ∧ LB w xb s wr)
    (fun _ iv _ => n - (intOf iv).toNat)
  case atStart => exact ⟨0, Nat.zero_le _, rfl, World.ownsRow_nil _ _ _ _, fun i hi => absurd hi (Nat.not_lt_zero _), L0.out⟩
  case round =>
    obtain ⟨k, hk, rfl, hown, hall, hlb⟩ := hrel
    have HA := Lib.hid hall
    clear hall
    by_cases hlt : k < n
    · have GK := Lib.hid (GT.out k wr hlt hlb.1)
      have NX := AN.out k hlt
      obtain ⟨G, hG⟩ : ∃ G, getS (nats s) k = G := ⟨_, rfl⟩
      rw [hG] at GK
      have HG := Lib.hid hG
      clear hG
      cases G with
      | none =>
        have NO : Hid (¬ okS (nats s)) := Lib.hid (fun h => (OKD.out.1 h).1 k hlt HG.out)
        clear NX
        go_wp2_with fail
        refine GK.out.mono ?_
        rintro e w2 ⟨rfl, k2⟩
        have KE := Lib.hid (LB.next hlb k2).2
        go_wp2_with fail
        go_ret2
        exact ⟨KE.out, .inr ⟨NO.out, rfl⟩⟩
      | some v =>
        have hv := GL.out k v HG.out
        rw [GV.out k v HG.out] at NX
        have NXH := Lib.hid NX
        clear NX
        go_wp2_with fail
        refine GK.out.mono ?_
        rintro e w2 ⟨rfl, k2⟩
        have hlb2 := LB.next hlb k2
        have hown2 := own_below hown k2
        clear hown hlb k2
        go_wp2_with (at_builtin; refine wpList_append_own _ rfl _ _ 72 rfl w.heap.size 62 i0 (.int .u64 0) 1 8 Try.underlying72 hi hz0 hz1 hz2 rfl (by decide) _ k _ rfl (hown2.alloc _) ⟨w2.heap.size, 0, none⟩ 1 1 [.int .u64 (v : Int)] rfl rfl ?c1 (one_u64 _) ?c3 ?c4 ?c5 ?_)
        case c1 => exact cell_one_new _ _ _
        case c3 => simp only [maxLen]; omega
        case c4 => omega
        case c5 => have := hlb2.2.size; simp; try omega
        intro v1 w3 hown3 hg3 _
        have B3 := below_grow hlb2.2 hown2 hg3
        have LB3 : LB w xb s w3 := ⟨L0.out.1.below B3, B3⟩
        rw [ivs_snoc, ← NXH.out] at hown3
        have HA2 : Hid (∀ i, i < k + 1 → getS (nats s) i ≠ none) := Lib.hid (fun i hi => by
          by_cases e : i = k
          · subst e; rw [HG.out]; simp
          · exact HA.out i (by omega))
        clear hown2 hlb2 hg3 B3
        go_wp2_with fail
        go_roundw
        case rel => exact ⟨k + 1, by omega, by go_num, hown3, HA2.out, LB3⟩
        case measure => simp [intOf]; try omega
    · obtain rfl : k = n := by omega
      have ET : A.take k = A := List.take_of_length_le (by rw [AL.out]; exact Nat.le_refl _)
      rw [ET] at hown
      obtain ⟨-, -, -, -, c4, -⟩ := MK.out _ hlb
      clear ET
      go_upto_region 12 with fail
      go_region_held3 (fun w' => w'.cell? ⟨xb, 4, none⟩ = some (.iface 55 (.string s)))
        (first | assumption | exact c4)
        (first
          | (go_at_call 26; refine (LE.out _).mono ?_; rintro e w2 ⟨rfl, rfl⟩)
          | (go_at_call 24; refine (RA.out _).mono ?_; rintro e w2 ⟨rfl, rfl⟩))
      have hown1 : wr.drew.ownsRow w.heap.size 62 1 u4 k (ivs A) := hown.drew
      have hlb1 := LB.drew hlb
      generalize wr.drew = W1 at hown1 hlb1 ⊢
      have HRU : RU W1 u4 A := RU.of (by rw [AL.out]; exact hown1)
      clear hown hlb c4
      have HOW := Lib.hid hown1
      clear hown1
      go_wp2_with fail
      refine (BU.out _ _ HRU).mono ?_
      rintro e w2 ⟨k2, hcase⟩
      have KE := Lib.hid (LB.next hlb1 k2).2
      have HO2 := Lib.hid (own_below HOW.out k2)
      clear HRU hlb1 k2
      rcases hcase with ⟨hm, rfl⟩ | ⟨hnm, rfl⟩
      · by_cases hb : build A = nats s
        · have OK : Hid (okS (nats s)) := Lib.hid (OKD.out.2 ⟨HA.out, hm, hb⟩)
          rw [hb, TE.out]
          clear hb hm
          go_wp2_with fail
          go_ret2
          exact ⟨KE.out, .inl ⟨OK.out, _, rfl, HO2.out⟩⟩
        · have NO : Hid (¬ okS (nats s)) := Lib.hid (fun h => hb (OKD.out.1 h).2.2)
          have hne := TN.out hb
          obtain ⟨T, hT⟩ : ∃ T, txt (build A) = T := ⟨_, rfl⟩
          rw [hT] at hne ⊢
          have e1 := bytes_ne hne
          clear hb hm hT hne
          go_wp2_with fail
          go_ret2
          exact ⟨KE.out, .inr ⟨NO.out, rfl⟩⟩
      · have NO : Hid (¬ okS (nats s)) := Lib.hid (fun h => hnm (OKD.out.1 h).2.1)
        clear hnm
        go_wp2_with fail
        go_ret2
        exact ⟨KE.out, .inr ⟨NO.out, rfl⟩⟩

set_option maxRecDepth 100000 in
set_option maxHeartbeats 3200000 in
theorem dall_any (s : ByteArray) (hs : s.size ≤ maxLen) (ho : opens (nats s)) (w : World) :
    Calls Try.prog 34 #[.string s] w (AllPost s w) := by
  obtain ⟨i0, hi, hz0, hz1, hz2⟩ := info_parts Try.infoU64
  have OP := Lib.hid (dopen_any s w hs)
  unfold DOpenPost formV at OP
  have hn := ho.2.1
  have GT := Lib.hid (fun i W hi => dget_in s hs ho i W hi)
  have AN := Lib.hid (allL_next (nats s))
  have AL := Lib.hid (allL_length (nats s))
  have OKD : Hid (okS (nats s) ↔ (∀ i, i < nS (nats s) → getS (nats s) i ≠ none) ∧ mayS (allL (nats s)) ∧ build (allL (nats s)) = nats s) := Lib.hid Iff.rfl
  have GV : Hid (∀ i v, getS (nats s) i = some v → gv (nats s) i = v) := Lib.hid (fun i v h => by unfold gv; rw [h]; rfl)
  have GL : Hid (∀ i v, getS (nats s) i = some v → v < 18446744073709551616) := Lib.hid (fun i v h => by have := getS_lt h; have := ho.2.2.1; omega)
  have BU := Lib.hid (fun W v h => dbuild_any W v (allL (nats s)) h (by rw [allL_length]; exact hn))
  have TE := Lib.hid (txt_nats s)
  have TN : Hid (build (allL (nats s)) ≠ nats s → txt (build (allL (nats s))) ≠ s) := Lib.hid txt_build_ne
  unfold AllPost
  unfold BuildPost at BU
  rw [AL.out]
  have HOP := Lib.hid ho
  generalize allL (nats s) = A at *
  generalize hib (nS (nats s)) (uS (nats s)) = hbb at *
  generalize wid (nS (nats s)) (uS (nats s)) = wd at *
  generalize nS (nats s) = n at *
  generalize uS (nats s) = u at *
  clear ho
  go_enter Try.func34, Try.ntmps34
  go_wp2_with fail
  refine OP.out.mono ?_
  rintro e w1 ⟨k1, ⟨-, rfl⟩ | ⟨hno, -⟩⟩
  rotate_left
  · exact absurd HOP.out hno
  go_upto_region 2 with fail
  have F0 := DS.start w1 n u wd hbb
  have k2 : Below w.heap.size w (w1.alloc (.cells #[.int .i64 (n : Int), .int .u64 (u : Int), .int .i64 (wd : Int), .int .i64 (hbb : Int)] 64)) := k1.alloc k1.size _
  generalize hw2 : w1.alloc _ = w2 at F0 k2 ⊢
  clear hw2
  have MK := Lib.hid (fun W (k : Below w2.heap.size w2 W) => (F0.cells k).1)
  have K2 := Lib.hid k2
  clear F0 k2 k1
  go_wp2_with fail
  go_loopw [6, 7] (fun v iv wr => ∃ k : Nat, k ≤ n ∧ iv = .int .i64 (k : Int) ∧ wr.ownsRow w2.heap.size 62 1 v k (ivs (A.take k)) ∧ (∀ i, i < k → getS (nats s) i ≠ none) ∧ Below w2.heap.size w2 wr)
    (fun _ iv _ => n - (intOf iv).toNat)
  case atStart => exact ⟨0, Nat.zero_le _, rfl, World.ownsRow_nil _ _ _ _, fun i hi => absurd hi (Nat.not_lt_zero _), Below.refl _ _⟩
  case round =>
    obtain ⟨k, hk, rfl, hown, hall, hb⟩ := hrel
    have HA := Lib.hid hall
    clear hall
    have c0 := MK.out _ hb
    by_cases hlt : k < n
    · have GK := Lib.hid (GT.out k wr hlt)
      have NX := AN.out k hlt
      obtain ⟨G, hG⟩ : ∃ G, getS (nats s) k = G := ⟨_, rfl⟩
      rw [hG] at GK
      have HG := Lib.hid hG
      clear hG
      cases G with
      | none =>
        have NO : Hid (¬ okS (nats s)) := Lib.hid (fun h => (OKD.out.1 h).1 k hlt HG.out)
        clear NX
        go_wp2_with fail
        refine GK.out.mono ?_
        rintro e w2 ⟨rfl, k2⟩
        have KE := Lib.hid (below_next K2.out (below_next hb k2))
        go_wp2_with fail
        go_ret2
        exact ⟨KE.out, .inr ⟨NO.out, rfl⟩⟩
      | some v =>
        have hv := GL.out k v HG.out
        rw [GV.out k v HG.out] at NX
        have NXH := Lib.hid NX
        clear NX
        go_wp2_with fail
        refine GK.out.mono ?_
        rintro e w3 ⟨rfl, k3⟩
        have hb3 := below_next hb k3
        have hown2 := own_below hown k3
        clear hown hb k3 c0
        go_wp2_with (at_builtin; refine wpList_append_own _ rfl _ _ 72 rfl w2.heap.size 62 i0 (.int .u64 0) 1 8 Try.underlying72 hi hz0 hz1 hz2 rfl (by decide) _ k _ rfl (hown2.alloc _) ⟨w3.heap.size, 0, none⟩ 1 1 [.int .u64 (v : Int)] rfl rfl ?c1 (one_u64 _) ?c3 ?c4 ?c5 ?_)
        case c1 => exact cell_one_new _ _ _
        case c3 => simp only [maxLen]; omega
        case c4 => omega
        case c5 => have := hb3.size; simp; try omega
        intro v1 w4 hown3 hg3 _
        have B3 := below_grow hb3 hown2 hg3
        rw [ivs_snoc, ← NXH.out] at hown3
        have HA2 : Hid (∀ i, i < k + 1 → getS (nats s) i ≠ none) := Lib.hid (fun i hi => by
          by_cases e : i = k
          · subst e; rw [HG.out]; simp
          · exact HA.out i (by omega))
        clear hown2 hb3 hg3
        go_wp2_with fail
        go_roundw
        case rel => exact ⟨k + 1, by omega, by go_num, hown3, HA2.out, B3⟩
        case measure => simp [intOf]; try omega
    · obtain rfl : k = n := by omega
      have ET : A.take k = A := List.take_of_length_le (by rw [AL.out]; exact Nat.le_refl _)
      rw [ET] at hown
      have HRU : RU wr u6 A := RU.of (by rw [AL.out]; exact hown)
      have HOW := Lib.hid (own_base hown K2.out.size)
      have KB := Lib.hid (below_next K2.out hb)
      clear hown hb ET
      go_wp2_with fail
      refine (BU.out _ _ HRU).mono ?_
      rintro e w3 ⟨k3, hcase⟩
      have KE := Lib.hid (below_next KB.out k3)
      have HO2 := Lib.hid (own_below HOW.out k3)
      clear HRU k3 c0
      rcases hcase with ⟨hm, rfl⟩ | ⟨hnm, rfl⟩
      · by_cases hb : build A = nats s
        · have OK : Hid (okS (nats s)) := Lib.hid (OKD.out.2 ⟨HA.out, hm, hb⟩)
          rw [hb, TE.out]
          clear hb hm
          go_wp2_with fail
          go_ret2
          exact ⟨KE.out, .inl ⟨OK.out, _, rfl, HO2.out⟩⟩
        · have NO : Hid (¬ okS (nats s)) := Lib.hid (fun h => hb (OKD.out.1 h).2.2)
          have hne := TN.out hb
          obtain ⟨T, hT⟩ : ∃ T, txt (build A) = T := ⟨_, rfl⟩
          rw [hT] at hne ⊢
          have e1 := bytes_ne hne
          clear hb hm hT hne
          go_wp2_with fail
          go_ret2
          exact ⟨KE.out, .inr ⟨NO.out, rfl⟩⟩
      · have NO : Hid (¬ okS (nats s)) := Lib.hid (fun h => hnm (OKD.out.1 h).2.1)
        clear hnm
        go_wp2_with fail
        go_ret2
        exact ⟨KE.out, .inr ⟨NO.out, rfl⟩⟩
end Go.Proofs.Ythaicpbdlhkkkaa.ef
