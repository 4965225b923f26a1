/- Contracts of the document's answers for layer 18: Silent, number, Edge, lines: each returns what the pure functions of EdgPure say; memory stays as it was. -/
import Derived.Test.YthaicpbdlhkkkaaRows
import Derived.Test.YthaicpbdlhkkkaaEdgPure
import Derived.WalkKit
import Derived.WalkSpells
import Derived.BigQuiet
import Derived.Lib.Hide
import Derived.Lib.Strings
import Derived.Lib.IndexBytes
namespace Go.Proofs.Ythaicpbdlhkkkaa.edg
open Go.RowKit

theorem ret_int {k : IntKind} {a b : Int} (h : a = b) : Ending.returned (.int k a) = .returned (.int k b) := by rw [h]
theorem ret_bool {a b : Bool} (h : a = b) : Ending.returned (.bool a) = .returned (.bool b) := by rw [h]

theorem beqT {a b : Int} (h : a = b) : (a == b) = true := beq_iff_eq.2 h
theorem beqF {a b : Int} (h : a ≠ b) : (a == b) = false := beq_eq_false_iff_ne.2 h
theorem bneT {a b : Int} (h : a ≠ b) : (a != b) = true := bne_iff_ne.2 h
theorem bneF {a b : Int} (h : a = b) : (a != b) = false := by rw [h]; exact bne_self_eq_false b

theorem size_len (s : ByteArray) : s.data.toList.length = s.size := by simp
theorem list_at (s : ByteArray) (k : Nat) (h : k < s.size) : s.data.toList.drop k = s[k] :: s.data.toList.drop (k + 1) := by
  rw [List.drop_eq_getElem_cons (by simpa using h)]; rfl
theorem list_head (s : ByteArray) (h : 0 < s.size) : s.data.toList.head? = some s[0] := by
  have := list_at s 0 h
  simp at this
  rw [this]; rfl
theorem list_nil (s : ByteArray) (h : s.size = 0) : s.data.toList = [] := List.eq_nil_of_length_eq_zero (by simpa using h)

/-! ### Silent -/
theorem silent_any (s : ByteArray) (w : World) :
    Calls Try.prog 38 #[.string s] w fun e w' => e = .returned (.bool (silent s.data.toList)) ∧ w = w' := by
  rcases Nat.eq_zero_or_pos s.size with h | h
  · have hl := list_nil s h
    have e1 : s.toList = [] := by rw [ByteArray.toList_eq]; exact hl
    have e2 : s.toList.isEmpty = true := by rw [e1]; rfl
    have E : Hid (silent s.data.toList = true) := Lib.hid (by rw [hl]; rfl)
    clear hl
    go_enter Try.func38, Try.ntmps38
    go_wp2
    go_ret
    exact ⟨ret_bool E.out.symm, rfl⟩
  · have hl := list_at s 0 h
    simp only [List.drop_zero] at hl
    have e2 : s.toList.isEmpty = false := by rw [ByteArray.toList_eq, hl]; rfl
    by_cases hc : s[0].toNat = 35
    · have hb : (((s[0].toNat : Nat) : Int) == 35) = true := beqT (by omega)
      have hc' : s[0] = 35 := by apply UInt8.toNat_inj.1; simpa using hc
      have E : Hid (silent s.data.toList = true) := Lib.hid (by rw [hl, hc']; rfl)
      clear hl hc hc'
      go_enter Try.func38, Try.ntmps38
      go_wp2
      go_ret
      exact ⟨ret_bool E.out.symm, rfl⟩
    · have hb : (((s[0].toNat : Nat) : Int) == 35) = false := beqF (by omega)
      have hc' : s[0] ≠ 35 := by intro h; apply hc; rw [h]; rfl
      have E : Hid (silent s.data.toList = false) := Lib.hid (by rw [hl]; simp [silent, hc'])
      clear hl hc hc'
      go_enter Try.func38, Try.ntmps38
      go_wp2
      go_ret
      exact ⟨ret_bool E.out.symm, rfl⟩

/-! ### number -/
theorem number_no (s : ByteArray) (w : World) (h : s.size < 1 ∨ 5 < s.size) :
    Calls Try.prog 68 #[.string s] w fun e w' => e = .returned (.tuple #[.int .i64 0, .bool false]) ∧ w = w' := by
  rcases h with h | h
  · go_enter Try.func68, Try.ntmps68
    go_wp2
    go_ret2
    exact ⟨rfl, rfl⟩
  · have h1 : ¬ s.size < 1 := by omega
    go_enter Try.func68, Try.ntmps68
    go_wp2
    go_ret2
    exact ⟨rfl, rfl⟩

theorem number_zero (s : ByteArray) (w : World) (h1 : 1 < s.size) (h5 : s.size ≤ 5) (hz : s[0].toNat = 48) :
    Calls Try.prog 68 #[.string s] w fun e w' => e = .returned (.tuple #[.int .i64 0, .bool false]) ∧ w = w' := by
  have hb : (((s[0].toNat : Nat) : Int) == 48) = true := beqT (by omega)
  clear hz
  go_enter Try.func68, Try.ntmps68
  go_wp2
  go_ret2
  exact ⟨rfl, rfl⟩

def numRet (o : Option Nat) : Ending := .returned (.tuple #[.int .i64 ((o.getD 0 : Nat) : Int), .bool o.isSome])

set_option maxHeartbeats 800000 in
theorem number_loop (s : ByteArray) (w : World) (h0 : 0 < s.size) (h5 : s.size ≤ 5) (hz : s.size = 1 ∨ ¬ s[0].toNat = 48) :
    Calls Try.prog 68 #[.string s] w fun e w' => e = numRet (digs 0 s.data.toList) ∧ w = w' := by
  have hA : decide ((s.size : Int) < 1) = false := by simp; omega
  have hB : decide ((5 : Int) < s.size) = false := by simp; omega
  have hg : (decide ((1 : Int) < s.size) = false) ∨ (decide ((1 : Int) < s.size) = true ∧ (((s[0].toNat : Nat) : Int) == 48) = false) := by
    by_cases h1 : s.size = 1
    · left; simp; omega
    · right
      rcases hz with hz | hz
      · exact absurd hz h1
      · exact ⟨by simp; omega, beqF (by omega)⟩
  clear hz
  rcases hg with hg | ⟨hg, hg2⟩
  all_goals
    go_enter Try.func68, Try.ntmps68
    go_wp2
    go_loop [4, 5] (fun n i => ∃ k v : Nat, k ≤ s.size ∧ i = .int .i64 k ∧ n = .int .i64 v ∧ v ≤ top k ∧ digs 0 s.data.toList = digs v (s.data.toList.drop k)) (fun _ i => s.size - (intOf i).toNat)
    case atStart => exact ⟨0, 0, Nat.zero_le _, rfl, rfl, Nat.le_refl _, rfl⟩
    case round =>
      obtain ⟨k, v, hk, rfl, rfl, hv, hd⟩ := hrel
      have hv5 : v ≤ 99999 := Nat.le_trans hv (top5 (by omega))
      have HD := Lib.hid hd
      have HV := Lib.hid hv
      clear hd hv
      by_cases hlt : k < s.size
      · have hla := list_at s k hlt
        by_cases hc : s[k].toNat < 48 ∨ 57 < s[k].toNat
        · have E : Hid (digs 0 s.data.toList = none) := Lib.hid (by rw [HD.out, hla]; exact digs_bad _ _ _ hc)
          clear hla HD
          rcases hc with hc | hc
          · go_wp2
            go_ret2
            exact ⟨by rw [numRet, E.out]; rfl, rfl⟩
          · have hc' : ¬ s[k].toNat < 48 := by omega
            go_wp2
            go_ret2
            exact ⟨by rw [numRet, E.out]; rfl, rfl⟩
        · have h48 : 48 ≤ s[k].toNat := by omega
          have h57 : s[k].toNat ≤ 57 := by omega
          have E : Hid (digs 0 s.data.toList = digs (10 * v + (s[k].toNat - 48)) (s.data.toList.drop (k + 1))) := Lib.hid (by rw [HD.out, hla]; exact digs_snoc _ _ _ h48 h57)
          clear hla HD hc
          go_wp2
          go_round
          case rel =>
            refine ⟨k + 1, 10 * v + (s[k].toNat - 48), by omega, by go_num, by (show Value.int _ _ = Value.int _ _; congr 1; omega), ?_, E.out⟩
            have := HV.out
            simp only [top]
            omega
          case measure => simp [intOf]; omega
      · have hks : k = s.size := by omega
        have E : Hid (digs 0 s.data.toList = some v) := Lib.hid (by rw [HD.out, hks, ← size_len, List.drop_length]; rfl)
        clear hks HD
        go_wp2
        go_ret2
        exact ⟨by rw [numRet, E.out]; rfl, rfl⟩

theorem number_any (s : ByteArray) (w : World) :
    Calls Try.prog 68 #[.string s] w fun e w' => e = numRet (number s.data.toList) ∧ w = w' := by
  by_cases h : s.size < 1 ∨ 5 < s.size
  · refine (number_no s w h).mono fun e w' hh => ⟨?_, hh.2⟩
    have : number s.data.toList = none := by unfold number; rw [if_pos (by rw [size_len]; omega)]
    rw [this, hh.1]; rfl
  · have h0 : 0 < s.size := by omega
    by_cases hz : 1 < s.size ∧ s[0].toNat = 48
    · refine (number_zero s w hz.1 (by omega) hz.2).mono fun e w' hh => ⟨?_, hh.2⟩
      have hc' : s[0] = 48 := by apply UInt8.toNat_inj.1; simpa using hz.2
      have : number s.data.toList = none := by unfold number; rw [if_pos (.inr (.inr ⟨by rw [size_len]; exact hz.1, by rw [list_head s h0, hc']⟩))]
      rw [this, hh.1]; rfl
    · refine (number_loop s w h0 (by omega) (by omega)).mono fun e w' hh => ⟨?_, hh.2⟩
      have : number s.data.toList = digs 0 s.data.toList := by
        unfold number; rw [if_neg]
        rintro (h1 | h1 | ⟨h1, h2⟩)
        · rw [size_len] at h1; omega
        · rw [size_len] at h1; omega
        · rw [list_head s h0] at h2
          rw [size_len] at h1
          simp at h2
          exact hz ⟨h1, by rw [h2]; rfl⟩
      rw [this, hh.1]

theorem number_some (s : ByteArray) (x : Nat) (h : number s.data.toList = some x) (w : World) :
    Calls Try.prog 68 #[.string s] w fun e w' => e = .returned (.tuple #[.int .i64 x, .bool true]) ∧ w = w' :=
  (number_any s w).mono fun e w' hh => ⟨by rw [hh.1, h]; rfl, hh.2⟩
theorem number_none (s : ByteArray) (h : number s.data.toList = none) (w : World) :
    Calls Try.prog 68 #[.string s] w fun e w' => e = .returned (.tuple #[.int .i64 0, .bool false]) ∧ w = w' :=
  (number_any s w).mono fun e w' hh => ⟨by rw [hh.1, h]; rfl, hh.2⟩

/-! ### Edge -/
def edgeRet : Option (Nat × Nat) → Ending
  | none => .returned (.tuple #[.agg #[.int .u32 0, .int .u32 0], .bool false])
  | some (x, y) => .returned (.tuple #[.agg #[.int .u32 x, .int .u32 y], .bool true])

theorem take_extract (s : ByteArray) (k : Nat) : (s.extract 0 k).data.toList = s.data.toList.take k := by
  rw [Lib.extract_data]; simp

def EdgePost (o : Option (Nat × Nat)) (w : World) (e : Ending) (w' : World) : Prop := e = edgeRet o ∧ Below w.heap.size w w'

set_option maxHeartbeats 1600000 in
theorem refEdge_any (n : Int) (s : ByteArray) (w : World) (hs : s.size ≤ maxLen) :
    Calls Try.prog 39 #[.int .i64 n, .string s] w (EdgePost (edgeOf n s.data.toList) w) := by
  unfold maxLen at hs
  go_enter Try.func39, Try.ntmps39
  go_wp2_with fail
  go_loop [6] (fun i => ∃ k : Nat, k ≤ s.size ∧ i = .int .i64 k ∧ cutAt 32 s.data.toList = (s.data.toList.take k ++ (cutAt 32 (s.data.toList.drop k)).1, (cutAt 32 (s.data.toList.drop k)).2)) (fun i => s.size - (intOf i).toNat)
  case atStart => exact ⟨0, Nat.zero_le _, rfl, by simp⟩
  case round =>
    obtain ⟨k, hk, rfl, hc0⟩ := hrel
    have HC := Lib.hid hc0
    clear hc0
    by_cases hlt : k < s.size
    · have hla := Lib.hid (list_at s k hlt)
      have htk : Hid (s.data.toList.take (k + 1) = s.data.toList.take k ++ [s[k]]) := Lib.hid (by
        rw [List.take_succ_eq_append_getElem (by simpa using hlt)]; rfl)
      by_cases hc : s[k].toNat = 32
      · have hb : (((s[k].toNat : Nat) : Int) != 32) = false := bneF (by omega)
        have hc' : s[k] = 32 := by apply UInt8.toNat_inj.1; simpa using hc
        have hne : ((k : Int) == (s.size : Int)) = false := beqF (by omega)
        have E : Hid (cutAt 32 s.data.toList = (s.data.toList.take k, s.data.toList.drop (k + 1), true)) := Lib.hid (by rw [HC.out, hla.out, hc', cutAt_hit]; simp)
        have HA : Hid ((s.extract 0 k).data.toList = s.data.toList.take k) := Lib.hid (take_extract s k)
        have HB : Hid ((s.extract (k + 1) s.size).data.toList = s.data.toList.drop (k + 1)) := Lib.hid (Lib.extract_to_end s (k + 1))
        clear HC hla htk hc hc'
        rcases hx : number (s.extract 0 k).data.toList with _ | x
        · have Hx := Lib.hid hx
          clear hx
          have R : Hid (edgeOf n s.data.toList = none) := Lib.hid (by unfold edgeOf; rw [E.out]; simp only []; rw [← HA.out, Hx.out]; rfl)
          rcases hy : number (s.extract (k + 1) s.size).data.toList with _ | y
          all_goals
            have Hy := Lib.hid hy
            clear hy
            go_wp2_with fail
            refine (number_none _ Hx.out _).mono ?_
            rintro e w' ⟨rfl, rfl⟩
            go_wp2_with fail
            first | refine (number_none _ Hy.out _).mono ?_ | refine (number_some _ _ Hy.out _).mono ?_
            rintro e w' ⟨rfl, rfl⟩
            go_wp2_with fail
            exact bodyPost_ret (v := .tuple #[.agg #[.int .u32 0, .int .u32 0], .bool false]) (by simp [results, Try.results39, go_sem]) rfl ⟨by rw [R.out]; rfl, (Below.refl _ _).alloc (Nat.le_refl _) _⟩
        · have Hx := Lib.hid hx
          have hxl : x ≤ 99999 := number_some_lt _ _ hx
          clear hx
          rcases hy : number (s.extract (k + 1) s.size).data.toList with _ | y
          · have Hy := Lib.hid hy
            clear hy
            have R : Hid (edgeOf n s.data.toList = none) := Lib.hid (by unfold edgeOf; rw [E.out]; simp only []; rw [← HA.out, Hx.out, ← HB.out, Hy.out]; rfl)
            go_wp2_with fail
            refine (number_some _ _ Hx.out _).mono ?_
            rintro e w' ⟨rfl, rfl⟩
            go_wp2_with fail
            refine (number_none _ Hy.out _).mono ?_
            rintro e w' ⟨rfl, rfl⟩
            go_wp2_with fail
            exact bodyPost_ret (v := .tuple #[.agg #[.int .u32 0, .int .u32 0], .bool false]) (by simp [results, Try.results39, go_sem]) rfl ⟨by rw [R.out]; rfl, (Below.refl _ _).alloc (Nat.le_refl _) _⟩
          · have Hy := Lib.hid hy
            have hyl : y ≤ 99999 := number_some_lt _ _ hy
            clear hy
            have R : Hid (edgeOf n s.data.toList = if (x : Int) < n ∧ (y : Int) < n then some (x, y) else none) := Lib.hid (by unfold edgeOf; rw [E.out]; simp only []; rw [← HA.out, Hx.out, ← HB.out, Hy.out]; rfl)
            by_cases hxn : (x : Int) < n
            · have hd1 : decide (n ≤ (x : Int)) = false := by simp; omega
              by_cases hyn : (y : Int) < n
              · have hd2 : decide (n ≤ (y : Int)) = false := by simp; omega
                have R' : Hid (edgeOf n s.data.toList = some (x, y)) := Lib.hid (by rw [R.out, if_pos ⟨hxn, hyn⟩])
                go_wp2_with fail
                refine (number_some _ _ Hx.out _).mono ?_
                rintro e w' ⟨rfl, rfl⟩
                go_wp2_with fail
                refine (number_some _ _ Hy.out _).mono ?_
                rintro e w' ⟨rfl, rfl⟩
                go_wp2_with fail
                exact bodyPost_ret (v := .tuple #[.agg #[.int .u32 x, .int .u32 y], .bool true]) (by simp [results, Try.results39, go_sem]) rfl ⟨by rw [R'.out]; rfl, (Below.refl _ _).alloc (Nat.le_refl _) _⟩
              · have hd2 : decide (n ≤ (y : Int)) = true := by simp; omega
                have R' : Hid (edgeOf n s.data.toList = none) := Lib.hid (by rw [R.out, if_neg (fun h => hyn h.2)])
                go_wp2_with fail
                refine (number_some _ _ Hx.out _).mono ?_
                rintro e w' ⟨rfl, rfl⟩
                go_wp2_with fail
                refine (number_some _ _ Hy.out _).mono ?_
                rintro e w' ⟨rfl, rfl⟩
                go_wp2_with fail
                exact bodyPost_ret (v := .tuple #[.agg #[.int .u32 0, .int .u32 0], .bool false]) (by simp [results, Try.results39, go_sem]) rfl ⟨by rw [R'.out]; rfl, (Below.refl _ _).alloc (Nat.le_refl _) _⟩
            · have hd1 : decide (n ≤ (x : Int)) = true := by simp; omega
              have R' : Hid (edgeOf n s.data.toList = none) := Lib.hid (by rw [R.out, if_neg (fun h => hxn h.1)])
              go_wp2_with fail
              refine (number_some _ _ Hx.out _).mono ?_
              rintro e w' ⟨rfl, rfl⟩
              go_wp2_with fail
              refine (number_some _ _ Hy.out _).mono ?_
              rintro e w' ⟨rfl, rfl⟩
              go_wp2_with fail
              exact bodyPost_ret (v := .tuple #[.agg #[.int .u32 0, .int .u32 0], .bool false]) (by simp [results, Try.results39, go_sem]) rfl ⟨by rw [R'.out]; rfl, (Below.refl _ _).alloc (Nat.le_refl _) _⟩
      · have hb : (((s[k].toNat : Nat) : Int) != 32) = true := bneT (by omega)
        have hc' : s[k] ≠ 32 := by intro h; apply hc; rw [h]; rfl
        have E : Hid (cutAt 32 s.data.toList = (s.data.toList.take (k + 1) ++ (cutAt 32 (s.data.toList.drop (k + 1))).1, (cutAt 32 (s.data.toList.drop (k + 1))).2)) := Lib.hid (by
          rw [htk.out]
          refine cutAt_step 32 _ _ _ hc' _ ?_
          rw [HC.out, hla.out])
        clear HC hla htk hc hc'
        go_wp2
        go_round
        case rel => exact ⟨k + 1, by omega, by go_num, E.out⟩
        case measure => simp [intOf]; omega
    · have hne : ((k : Int) == (s.size : Int)) = true := beqT (by omega)
      have R : Hid (edgeOf n s.data.toList = none) := Lib.hid (by
        unfold edgeOf; rw [HC.out, show k = s.data.toList.length by simp; omega, List.drop_length]; simp [cutAt])
      clear HC
      go_wp2_with fail
      exact bodyPost_ret (v := .tuple #[.agg #[.int .u32 0, .int .u32 0], .bool false]) (by simp [results, Try.results39, go_sem]) rfl ⟨by rw [R.out]; rfl, (Below.refl _ _).alloc (Nat.le_refl _) _⟩

/-! ### May -/
def mayRead (n : Int) (s : ByteArray) : Bool := decide (0 ≤ n) && decide (n ≤ 65536) && decide ((s.size : Int) ≤ 16777216)
theorem may_any (n : Int) (s : ByteArray) (w : World) :
    Calls Try.prog 14 #[.int .i64 n, .string s] w fun e w' => e = .returned (.bool (mayRead n s)) ∧ w = w' := by
  by_cases h1 : 0 ≤ n <;> by_cases h2 : n ≤ 65536 <;> by_cases h3 : (s.size : Int) ≤ 16777216
  all_goals
    have R : Hid (mayRead n s = (decide (0 ≤ n) && decide (n ≤ 65536) && decide ((s.size : Int) ≤ 16777216))) := Lib.hid rfl
    simp [h1, h2, h3] at R
    go_enter Try.func14, Try.ntmps14
    go_wp2
    go_ret
    exact ⟨ret_bool R.out.symm, rfl⟩

end Go.Proofs.Ythaicpbdlhkkkaa.edg
