/- Contracts of the program's layer 18: NewReader, Line, the word's number, the line's edge. -/
import Derived.Test.YthaicpbdlhkkkaaEdgRefC
import Derived.Test.YthaicpbdlhkkkaaEdgCut
import Derived.Lib.ConvBytes
import Derived.OneCell
namespace Go.Proofs.Ythaicpbdlhkkkaa.edg
open Go.RowKit

/-! ### a reader in memory -/
def rdCells (n : Int) (rest : ByteArray) (at_ line : Nat) (bad : Bool) : Array Value := #[.int .i64 n, .string rest, .int .i64 at_, .int .i64 line, .bool bad]
def RdIs (w : World) (rb : Nat) (n : Int) (ls : List B) (at_ line : Nat) (bad : Bool) : Prop :=
  ∃ rest : ByteArray, at_ + rest.size ≤ 16777216 ∧ lines rest.data.toList = ls ∧ w.heap[rb]? = some (.cells (rdCells n rest at_ line bad) 81 (0, 0))

theorem newReader_no (n : Int) (s : ByteArray) (h : mayRead n s = false) (w : World) :
    Calls Try.prog 13 #[.int .i64 n, .string s] w fun e w' => e = .returned (.tuple #[.pointer none, .int .i64 1]) ∧ w = w' := by
  unfold mayRead at h
  by_cases h1 : n < 0
  · clear h
    go_enter Try.func13, Try.ntmps13
    go_wp2
    go_ret2
    exact ⟨rfl, rfl⟩
  · by_cases h2 : 65536 < n
    · clear h
      go_enter Try.func13, Try.ntmps13
      go_wp2
      go_ret2
      exact ⟨rfl, rfl⟩
    · have h3 : (16777216 : Int) < s.size := by simp at h; omega
      clear h
      go_enter Try.func13, Try.ntmps13
      go_wp2
      go_ret2
      exact ⟨rfl, rfl⟩

theorem newReader_yes (n : Int) (s : ByteArray) (h : mayRead n s = true) (w : World) :
    Calls Try.prog 13 #[.int .i64 n, .string s] w fun e w' => e = .returned (.tuple #[.pointer (some ⟨w.heap.size, 0, none⟩), .int .i64 0]) ∧ RdIs w' w.heap.size n (lines s.data.toList) 0 0 false ∧ Below w.heap.size w w' := by
  unfold mayRead at h
  simp only [Bool.and_eq_true, decide_eq_true_eq] at h
  obtain ⟨⟨h1, h2⟩, h3⟩ := h
  go_enter Try.func13, Try.ntmps13
  go_wp2
  go_ret2
  exact ⟨rfl, ⟨s, by omega, rfl, heap_alloc_new _ _⟩, (Below.refl _ _).alloc (Nat.le_refl _) _⟩

theorem line_any (rb : Nat) (n : Int) (ls : List B) (at_ line : Nat) (bad : Bool) (w : World) (h : RdIs w rb n ls at_ line bad) :
    Calls Try.prog 18 #[.pointer (some ⟨rb, 0, none⟩)] w fun e w' => e = .returned (.int .i64 line) ∧ w = w' := by
  obtain ⟨rest, _, _, hb⟩ := h
  have hc : w.cell? ⟨rb, 3, none⟩ = some (.int .i64 line) := by rw [cell_of_row w rb 3 _ _ _ hb]; rfl
  clear hb
  go_enter Try.func18, Try.ntmps18
  go_wp2
  go_ret
  exact ⟨rfl, rfl⟩

/-! ### the number of a word, as the program has it -/
def numOk (n : Int) (s : B) : Bool := match number s with
  | some x => decide ((x : Int) < n)
  | none => false

def NumPost (n : Int) (s : ByteArray) (b0 : Bool) (bb : Nat) (w : World) (e : Ending) (w' : World) : Prop :=
  ∃ v : Nat, e = .returned (.int .u32 v) ∧ w.grownBy w' (some bb) ∧ w'.heap[bb]? = some (.cells #[.bool (b0 || !numOk n s.data.toList)] 4 (0, 0)) ∧ (numOk n s.data.toList = true → number s.data.toList = some v)

theorem bytes_run (s : ByteArray) (w : World) : ∃ wb cap, (convert 9 53 (.string s)).run Try.prog w = .ok (.slice (some ⟨w.heap.size, 0, none⟩) s.size cap) wb ∧ wb.heap.size = w.heap.size + 1 ∧ Below w.heap.size w wb ∧
    ∀ j (hj : j < s.size), wb.cell? ⟨w.heap.size, j, none⟩ = some (.int .u8 s[j].toNat) := by
  refine ⟨Lib.bytesWorld w 5 s, _, Lib.run_convert_string_bytes w _ _ _ s Try.underlying9 Try.underlying53 Try.underlying5, Lib.bytesWorld_size _ _ _, ?_, ?_⟩
  · exact ⟨by simp [Lib.bytesWorld, World.freeze, World.alloc, World.drew, -World.alloc_eq, -World.drew_eq], by simp [Lib.bytesWorld, World.freeze, World.alloc, World.drew, -World.alloc_eq, -World.drew_eq], by simp [Lib.bytesWorld, World.freeze, World.alloc, World.drew, -World.alloc_eq, -World.drew_eq], by rw [Lib.bytesWorld_size]; omega, fun k hk => Lib.bytesWorld_at_old w _ s k hk⟩
  · intro j hj
    rw [Lib.bytesWorld_cell w _ s j hj]
    have : s.data.toList.getD j 0 = s[j] := by
      rw [List.getD_eq_getElem?_getD, Lib.data_getElem? s j hj]; rfl
    rw [this]

theorem number_of_digs {l : B} {x : Nat} (h : number l = some x) : digs 0 l = some x := by
  unfold number at h
  split at h
  · cases h
  · exact h
theorem numOk_bad (n : Int) (l : B) (h : digs 0 l = none) : numOk n l = false := by
  unfold numOk
  rcases hx : number l with _ | x
  · rfl
  · rw [number_of_digs hx] at h; cases h
theorem numOk_yes {n : Int} {l : B} {v : Nat} (h : digs 0 l = some v) (hn : numOk n l = true) : number l = some v := by
  unfold numOk at hn
  rcases hx : number l with _ | x
  · rw [hx] at hn; cases hn
  · have := number_of_digs hx
    rw [h] at this
    exact this.symm ▸ rfl
theorem numOk_ge {n : Int} {l : B} {v : Nat} (h : digs 0 l = some v) (hn : n ≤ v) : numOk n l = false := by
  unfold numOk
  rcases hx : number l with _ | x
  · rfl
  · have := number_of_digs hx
    rw [h] at this
    injection this with this
    subst this
    simp; omega
theorem numOk_is {n : Int} {l : B} {v : Nat} (h : number l = some v) (hn : (v : Int) < n) : numOk n l = true := by
  unfold numOk; rw [h]; simpa using hn
theorem numOk_lead (n : Int) (s : ByteArray) (h1 : 1 < s.size) (hz : s[0].toNat = 48) : numOk n s.data.toList = false := by
  have hc' : s[0] = 48 := by apply UInt8.toNat_inj.1; simpa using hz
  have : number s.data.toList = none := by unfold number; rw [if_pos (.inr (.inr ⟨by rw [size_len]; exact h1, by rw [list_head s (by omega), hc']⟩))]
  unfold numOk; rw [this]
theorem number_is (s : ByteArray) (v : Nat) (h0 : 0 < s.size) (h5 : s.size ≤ 5) (hz : s.size = 1 ∨ ¬ s[0].toNat = 48) (h : digs 0 s.data.toList = some v) : number s.data.toList = some v := by
  unfold number; rw [if_neg]
  · exact h
  · rintro (h1 | h1 | ⟨h1, h2⟩)
    · rw [size_len] at h1; omega
    · rw [size_len] at h1; omega
    · rw [list_head s h0] at h2
      rw [size_len] at h1
      simp at h2
      rcases hz with hz | hz
      · omega
      · exact hz (by rw [h2]; rfl)

theorem grown_store {w wb : World} {bb : Nat} {b0 : Bool} {u : Value} (hb : Below w.heap.size w wb) (hbb : w.heap[bb]? = some (.cells #[.bool b0] 4 (0, 0))) :
    w.grownBy (wb.setCell ⟨bb, 0, none⟩ u) (some bb) ∧ (wb.setCell ⟨bb, 0, none⟩ u).heap[bb]? = some (.cells #[u] 4 (0, 0)) := by
  refine ⟨⟨hb.os, hb.tape, hb.output, by simpa using hb.size, fun k hk hne => ?_⟩, ?_⟩
  · rw [Below.heap_setCell _ _ _ _ (by intro h; apply hne; rw [h])]
    exact hb.block k hk
  · have := hb.block bb (lt_of_block hbb)
    exact one_setCell (this.trans hbb)

set_option maxHeartbeats 3200000 in
theorem closure_any (n : Int) (s : ByteArray) (hs : s.size ≤ 5) (b0 : Bool) (bb xb rb : Nat) (w : World)
    (hbb : w.heap[bb]? = some (.cells #[.bool b0] 4 (0, 0))) (hxb : w.cell? ⟨xb, 0, none⟩ = some (.pointer (some ⟨rb, 0, none⟩))) (hrb : w.cell? ⟨rb, 0, none⟩ = some (.int .i64 n)) :
    Calls Try.prog 70 #[.string s, .pointer (some ⟨bb, 0, none⟩), .pointer (some ⟨xb, 0, none⟩)] w (NumPost n s b0 bb w) := by
  obtain ⟨wb, cap, hrun, hwz, hbw, hcells⟩ := bytes_run s w
  have hlb := lt_of_block hbb
  have c1 : wb.cell? ⟨bb, 0, none⟩ = some (.bool b0) := by rw [hbw.cell (p := ⟨bb, 0, none⟩) hlb]; exact cell_of_one hbb
  have f1 : wb.frozen? ⟨bb, 0, none⟩ = false := by rw [hbw.frozen (p := ⟨bb, 0, none⟩) hlb]; exact free_of_one hbb
  have c2 : wb.cell? ⟨xb, 0, none⟩ = some (.pointer (some ⟨rb, 0, none⟩)) := by rw [hbw.cell (p := ⟨xb, 0, none⟩) (World.block_lt_of_cell? w _ hxb)]; exact hxb
  have c3 : wb.cell? ⟨rb, 0, none⟩ = some (.int .i64 n) := by rw [hbw.cell (p := ⟨rb, 0, none⟩) (World.block_lt_of_cell? w _ hrb)]; exact hrb
  have G := Lib.hid (fun u => grown_store (u := u) hbw hbb)
  have HCB := Lib.hid hcells
  clear hcells hxb hrb
  go_enter Try.func70, Try.ntmps70
  go_wp2_with fail
  clear hrun
  go_loop [5, 11] (fun n i => ∃ k v : Nat, k ≤ s.size ∧ i = .int .i64 k ∧ n = .int .i64 v ∧ v ≤ top k ∧ digs 0 s.data.toList = digs v (s.data.toList.drop k)) (fun _ i => s.size - (intOf i).toNat)
  case atStart => exact ⟨0, 0, Nat.zero_le _, rfl, rfl, Nat.le_refl _, rfl⟩
  case round =>
    obtain ⟨k, v, hk, rfl, rfl, hv, hd⟩ := hrel
    have hv5 : v ≤ 99999 := Nat.le_trans hv (top5 (by omega))
    have HD := Lib.hid hd
    have HV := Lib.hid hv
    clear hd hv
    by_cases hlt : k < s.size
    · have hla := Lib.hid (list_at s k hlt)
      have hcell := HCB.out k hlt
      by_cases hc : s[k].toNat < 48 ∨ 57 < s[k].toNat
      · have E : Hid (numOk n s.data.toList = false) := Lib.hid (numOk_bad n _ (by rw [HD.out, hla.out]; exact digs_bad _ _ _ hc))
        clear hla HD
        rcases hc with hc | hc
        · go_wp2
          go_ret
          exact ⟨0, rfl, (G.out _).1, by rw [E.out, (G.out _).2]; simp, fun h => by rw [E.out] at h; cases h⟩
        · have hc' : ¬ s[k].toNat < 48 := by omega
          go_wp2
          go_ret
          exact ⟨0, rfl, (G.out _).1, by rw [E.out, (G.out _).2]; simp, fun h => by rw [E.out] at h; cases h⟩
      · have h48 : 48 ≤ s[k].toNat := by omega
        have h57 : s[k].toNat ≤ 57 := by omega
        have E : Hid (digs 0 s.data.toList = digs (10 * v + (s[k].toNat - 48)) (s.data.toList.drop (k + 1))) := Lib.hid (by rw [HD.out, hla.out]; exact digs_snoc _ _ _ h48 h57)
        clear hla HD hc
        go_wp2
        go_round
        case rel =>
          refine ⟨k + 1, 10 * v + (s[k].toNat - 48), by omega, by go_num, by (show Value.int _ _ = Value.int _ _; congr 1; omega), ?_, E.out⟩
          have := HV.out
          simp only [top]
          omega
        case measure => simp [intOf]; omega
    · have hks : k = s.size := by omega
      have E : Hid (digs 0 s.data.toList = some v) := Lib.hid (by rw [HD.out, hks, ← size_len, List.drop_length]; rfl)
      clear hks HD
      cases b0 with
      | true =>
        go_wp2
        go_ret
        exact ⟨v, by go_num, (G.out _).1, by rw [(G.out _).2]; simp, fun h => numOk_yes E.out h⟩
      | false =>
        by_cases hvn : (v : Int) < n
        · have d1 : decide (n ≤ (v : Int)) = false := by simp; omega
          rcases Nat.eq_zero_or_pos s.size with hz | hz
          · have e2 : s.toList.isEmpty = true := by rw [ByteArray.toList_eq, list_nil s hz]; rfl
            have e3 : s.toList = [] := by rw [ByteArray.toList_eq, list_nil s hz]
            have N : Hid (numOk n s.data.toList = false) := Lib.hid (by rw [list_nil s hz]; rfl)
            go_wp2
            go_ret
            exact ⟨v, by go_num, (G.out _).1, by rw [N.out, (G.out _).2]; simp, fun h => by rw [N.out] at h; cases h⟩
          · have e2 : s.toList.isEmpty = false := by
              have := list_at s 0 hz
              simp only [List.drop_zero] at this
              rw [ByteArray.toList_eq, this]; rfl
            by_cases h1 : 1 < s.size
            · have d2 : decide ((1 : Int) < s.size) = true := by simp; omega
              by_cases h48 : s[0].toNat = 48
              · have d3 : (((s[0].toNat : Nat) : Int) == 48) = true := beqT (by omega)
                have N : Hid (numOk n s.data.toList = false) := Lib.hid (numOk_lead n s h1 h48)
                clear h48
                go_wp2
                go_ret
                exact ⟨v, by go_num, (G.out _).1, by rw [N.out, (G.out _).2]; simp, fun h => by rw [N.out] at h; cases h⟩
              · have d3 : (((s[0].toNat : Nat) : Int) == 48) = false := beqF (by omega)
                have N : Hid (number s.data.toList = some v) := Lib.hid (number_is s v hz hs (.inr h48) E.out)
                clear h48
                go_wp2
                go_ret
                exact ⟨v, by go_num, (G.out _).1, by rw [numOk_is N.out hvn, (G.out _).2]; simp, fun _ => N.out⟩
            · have d2 : decide ((1 : Int) < s.size) = false := by simp; omega
              have N : Hid (number s.data.toList = some v) := Lib.hid (number_is s v hz hs (.inl (by omega)) E.out)
              go_wp2
              go_ret
              exact ⟨v, by go_num, (G.out _).1, by rw [numOk_is N.out hvn, (G.out _).2]; simp, fun _ => N.out⟩
        · have d1 : decide (n ≤ (v : Int)) = true := by simp; omega
          have N : Hid (numOk n s.data.toList = false) := Lib.hid (numOk_ge E.out (by omega))
          go_wp2
          go_ret
          exact ⟨v, by go_num, (G.out _).1, by rw [N.out, (G.out _).2]; simp, fun h => by rw [N.out] at h; cases h⟩

end Go.Proofs.Ythaicpbdlhkkkaa.edg
