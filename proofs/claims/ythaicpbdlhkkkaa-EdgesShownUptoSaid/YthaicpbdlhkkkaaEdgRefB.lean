/- Contracts of the document's answers for layer 18: lines, All, Parse, and the statement's own 'same': lists that the calls make. -/
import Derived.Test.YthaicpbdlhkkkaaEdgRef
namespace Go.Proofs.Ythaicpbdlhkkkaa.edg
open Go.RowKit

/-! ### lines -/
def strs (l : List ByteArray) : List Value := l.map Value.string
theorem Try.info9 : (Try.prog.info? 9).map (fun i => (i.zero, i.size, i.bytes)) = some (some (.string ByteArray.empty), 1, 16) := by kernel_rfl

def LinesInv (s : ByteArray) (L : List ByteArray) (fr k : Nat) : Prop :=
  lines s.data.toList = L.map (fun x => x.data.toList) ++ linesGo ((s.extract fr k).data.toList) (s.data.toList.drop k) ∧ ∀ x ∈ L, x.size ≤ s.size

theorem linesInv_start (s : ByteArray) : LinesInv s [] 0 0 := ⟨by simp [lines], by simp⟩
theorem size_extract (s : ByteArray) (a b : Nat) : (s.extract a b).size ≤ s.size := by
  rw [← size_len, ← size_len, Lib.extract_data]; simp; omega
theorem linesInv_hit {s : ByteArray} {L : List ByteArray} {fr k : Nat} (h : LinesInv s L fr k) (hk : k < s.size) (hc : s[k].toNat = 10) : LinesInv s (L ++ [s.extract fr k]) (k + 1) (k + 1) := by
  have hc' : s[k] = 10 := by apply UInt8.toNat_inj.1; simpa using hc
  refine ⟨?_, ?_⟩
  · rw [h.1, list_at s k hk, hc']
    have : (s.extract (k + 1) (k + 1)).data.toList = [] := by rw [Lib.extract_data]; simp
    rw [this]
    simp [linesGo]
  · intro x hx
    rcases List.mem_append.1 hx with hx | hx
    · exact h.2 x hx
    · simp at hx; subst hx; exact size_extract s fr k
theorem linesInv_step {s : ByteArray} {L : List ByteArray} {fr k : Nat} (h : LinesInv s L fr k) (hf : fr ≤ k) (hk : k < s.size) (hc : ¬ s[k].toNat = 10) : LinesInv s L fr (k + 1) := by
  have hc' : s[k] ≠ 10 := by intro h; apply hc; rw [h]; rfl
  refine ⟨?_, h.2⟩
  rw [h.1, list_at s k hk]
  have : (s.extract fr (k + 1)).data.toList = (s.extract fr k).data.toList ++ [s[k]] := by
    rw [Lib.extract_data, Lib.extract_data, show k + 1 - fr = (k - fr) + 1 from by omega]
    rw [List.take_succ_eq_append_getElem (by simp; omega)]
    congr 1
    simp only [List.getElem_drop]
    congr 1
    have : fr + (k - fr) = k := by omega
    simp only [this]; rfl
  rw [this]
  simp [linesGo, hc']
theorem linesInv_end {s : ByteArray} {L : List ByteArray} {fr : Nat} (h : LinesInv s L fr s.size) (hf : fr < s.size) :
    lines s.data.toList = (L ++ [s.extract fr s.size]).map (fun x => x.data.toList) ∧ ∀ x ∈ L ++ [s.extract fr s.size], x.size ≤ s.size := by
  refine ⟨?_, ?_⟩
  · rw [h.1]
    have h0 : s.data.toList.drop s.size = [] := by rw [← size_len, List.drop_length]
    have hne : (s.extract fr s.size).data.toList ≠ [] := by
      intro hh
      have := congrArg List.length hh
      rw [Lib.extract_data] at this
      simp at this
      omega
    rw [h0]
    simp only [linesGo, if_neg hne]
    rw [List.map_append]; rfl
  · intro x hx
    rcases List.mem_append.1 hx with hx | hx
    · exact h.2 x hx
    · simp at hx; subst hx; exact size_extract s fr _
theorem linesInv_end0 {s : ByteArray} {L : List ByteArray} {fr : Nat} (h : LinesInv s L fr s.size) (hf : ¬ fr < s.size) :
    lines s.data.toList = L.map (fun x => x.data.toList) ∧ ∀ x ∈ L, x.size ≤ s.size := by
  refine ⟨?_, h.2⟩
  rw [h.1]
  have h0 : s.data.toList.drop s.size = [] := by rw [← size_len, List.drop_length]
  have h1 : (s.extract fr s.size).data.toList = [] := by rw [Lib.extract_to_end, List.drop_eq_nil_of_le (by rw [size_len]; omega)]
  rw [h0, h1]
  simp [linesGo]

theorem below_append {w wr w1 : World} {e : TypeId} {size n : Nat} {v : Value} {xs : List Value} {o : Obj} (hb : Below w.heap.size w wr) (hown : wr.ownsRow w.heap.size e size v n xs) (hg : (wr.alloc o).grownBy w1 v.ownBlock) : Below w.heap.size w w1 :=
  (hb.alloc hb.size _).grown hg (by have := hb.size; simp; omega) (fun k hk => (hown.lt k hk).1)

def LinesPost (s : ByteArray) (w : World) (e : Ending) (w' : World) : Prop :=
  ∃ v L, e = .returned v ∧ w'.ownsRow w.heap.size 9 1 v L.length (strs L) ∧ (lines s.data.toList = L.map (fun x => x.data.toList) ∧ ∀ x ∈ L, x.size ≤ s.size) ∧ Below w.heap.size w w' ∧ L.length ≤ s.size

theorem strs_snoc (L : List ByteArray) (x : ByteArray) : strs L ++ [.string x] = strs (L ++ [x]) := by simp [strs]
theorem one_string (x : ByteArray) : ∀ u ∈ [Value.string x], u.oneCell' = true := by intro u hu; simp at hu; subst hu; rfl

set_option maxHeartbeats 1600000 in
theorem lines_any (s : ByteArray) (w : World) (hs : s.size ≤ 16777216) :
    Calls Try.prog 37 #[.string s] w (LinesPost s w) := by
  obtain ⟨i0, hi, hz0, hz1, hz2⟩ := info_parts Try.info9
  go_enter Try.func37, Try.ntmps37
  go_wp2_with fail
  go_loopw [3, 4, 5] (fun v f i wr => ∃ (k fr : Nat) (L : List ByteArray), fr ≤ k ∧ k ≤ s.size ∧ i = .int .i64 k ∧ f = .int .i64 fr ∧ wr.ownsRow w.heap.size 9 1 v L.length (strs L) ∧ Below w.heap.size w wr ∧ L.length ≤ fr ∧ LinesInv s L fr k)
    (fun _ _ i _ => s.size - (intOf i).toNat)
  case atStart => exact ⟨0, 0, [], Nat.le_refl _, Nat.zero_le _, rfl, rfl, World.ownsRow_nil _ _ _ _, Below.refl _ _, Nat.le_refl _, linesInv_start s⟩
  case round =>
    obtain ⟨k, fr, L, hfk, hk, rfl, rfl, hown, hb, hL, hinv⟩ := hrel
    have HI := Lib.hid hinv
    clear hinv
    by_cases hlt : k < s.size
    · by_cases hc : s[k].toNat = 10
      · have hb10 : (((s[k].toNat : Nat) : Int) == 10) = true := beqT (by omega)
        have HN := Lib.hid (linesInv_hit HI.out hlt hc)
        clear hc
        go_wp2_with (at_builtin; refine wpList_append_own _ rfl _ _ 50 rfl w.heap.size 9 i0 (.string ByteArray.empty) 1 16 Try.underlying50 hi hz0 hz1 hz2 rfl (by decide) _ L.length (strs L) rfl (hown.alloc _) ⟨wr.heap.size, 0, none⟩ 1 1 [.string (s.extract fr k)] rfl rfl ?c1 (one_string _) ?c3 ?c4 ?c5 ?_)
        case c1 => exact cell_one_new _ _ _
        case c3 => simp only [maxLen]; omega
        case c4 => omega
        case c5 => have := hb.size; simp; omega
        intro v1 w1 hown1 hg1 _
        have hb1 := below_append hb hown hg1
        rw [strs_snoc, show L.length + 1 = (L ++ [s.extract fr k]).length from by simp] at hown1
        clear hown hb hg1
        go_wp2_with fail
        go_roundw
        case rel => exact ⟨k + 1, k + 1, L ++ [s.extract fr k], by omega, by omega, by go_num, by go_num, hown1, hb1, by simp; omega, HN.out⟩
        case measure => simp [intOf]; omega
      · have hb10 : (((s[k].toNat : Nat) : Int) == 10) = false := beqF (by omega)
        have HN := Lib.hid (linesInv_step HI.out hfk hlt hc)
        clear hc HI
        go_wp2_with fail
        go_roundw
        case rel => exact ⟨k + 1, fr, L, by omega, by omega, by go_num, rfl, hown, hb, hL, HN.out⟩
        case measure => simp [intOf]; omega
    · obtain rfl : k = s.size := by omega
      clear hlt hk
      by_cases hf : fr < s.size
      · have HE := Lib.hid (linesInv_end HI.out hf)
        clear HI
        go_wp2_with (at_builtin; refine wpList_append_own _ rfl _ _ 50 rfl w.heap.size 9 i0 (.string ByteArray.empty) 1 16 Try.underlying50 hi hz0 hz1 hz2 rfl (by decide) _ L.length (strs L) rfl (hown.alloc _) ⟨wr.heap.size, 0, none⟩ 1 1 [.string (s.extract fr s.size)] rfl rfl ?d1 (one_string _) ?d3 ?d4 ?d5 ?_)
        case d1 => exact cell_one_new _ _ _
        case d3 => simp only [maxLen]; omega
        case d4 => omega
        case d5 => have := hb.size; simp; omega
        intro v1 w1 hown1 hg1 _
        have hb1 := below_append hb hown hg1
        rw [strs_snoc, show L.length + 1 = (L ++ [s.extract fr s.size]).length from by simp] at hown1
        clear hown hb hg1
        go_wp2_with fail
        go_ret
        exact ⟨_, L ++ [s.extract fr s.size], rfl, hown1, HE.out, hb1, by simp; omega⟩
      · have HE := Lib.hid (linesInv_end0 HI.out hf)
        clear HI
        go_wp2_with fail
        go_ret
        exact ⟨_, L, rfl, hown, HE.out, hb, by omega⟩

/-! ### rows that a call owns -/
theorem own_cases {w : World} {base : Nat} {e : TypeId} {size n : Nat} {v : Value} {xs : List Value} (h : w.ownsRow base e size v n xs) :
    (n = 0 ∧ v = .slice none 0 0) ∨ ∃ g cap, v = .slice (some ⟨g, 0, none⟩) n cap ∧ base ≤ g ∧ g < w.heap.size ∧ n ≤ cap ∧ cap ≤ maxLen ∧ ∀ j, j < n * size → w.cell? ⟨g, j, none⟩ = xs[j]? := by
  rcases h.2 with ⟨rfl, rfl⟩ | ⟨g, cap, cur, rfl, hb, hg, hn, hm, r⟩
  · exact .inl ⟨rfl, rfl⟩
  · exact .inr ⟨g, cap, rfl, hb, (Array.getElem?_eq_some_iff.1 hg).1, hn, hm, fun j hj => h.cellAt j hj⟩
theorem own_base {w : World} {base base' : Nat} {e : TypeId} {size n : Nat} {v : Value} {xs : List Value} (h : w.ownsRow base e size v n xs) (hb : base' ≤ base) : w.ownsRow base' e size v n xs := by
  refine ⟨h.1, ?_⟩
  rcases h.2 with h2 | ⟨g, cap, cur, hv, hg, r⟩
  · exact .inl h2
  · exact .inr ⟨g, cap, cur, hv, Nat.le_trans hb hg, r⟩
theorem own_below {w w' : World} {base : Nat} {e : TypeId} {size n : Nat} {v : Value} {xs : List Value} (h : w.ownsRow base e size v n xs) (hb : Below w.heap.size w w') : w'.ownsRow base e size v n xs :=
  h.kept (row := none) ⟨hb.os, hb.tape, hb.output, hb.size, fun k hk _ => hb.block k hk⟩ (by cases v.ownBlock <;> simp)
theorem cells_new' (w : World) (cs : List Value) (t : TypeId) (b : Nat) (hb : b = w.heap.size) : ∀ j u, cs[j]? = some u → (w.alloc (.cells cs.toArray t)).cell? ((⟨b, 0, none⟩ : Addr).add j) = some u := by
  intro j u hu
  subst hb
  have hadd : (⟨w.heap.size, 0, none⟩ : Addr).add j = ⟨w.heap.size, j, none⟩ := by unfold Addr.add; split <;> simp_all
  rw [hadd, World.cell?_alloc_new]
  simpa using hu
theorem cells_new (w : World) (cs : List Value) (t : TypeId) : ∀ j u, cs[j]? = some u → (w.alloc (.cells cs.toArray t)).cell? ((⟨w.heap.size, 0, none⟩ : Addr).add j) = some u := by
  intro j u hu
  have hadd : (⟨w.heap.size, 0, none⟩ : Addr).add j = ⟨w.heap.size, j, none⟩ := by unfold Addr.add; split <;> simp_all
  rw [hadd, World.cell?_alloc_new]
  simpa using hu

/-! ### All -/
def toldCells (l : List ((Nat × Nat) × Nat)) : List Value := l.flatMap fun t => [.int .u32 t.1.1, .int .u32 t.1.2, .int .i64 t.2]
theorem toldCells_snoc (l : List ((Nat × Nat) × Nat)) (x y k : Nat) : toldCells l ++ [.int .u32 x, .int .u32 y, .int .i64 k] = toldCells (l ++ [((x, y), k)]) := by simp [toldCells]

def ScanInv (n : Int) (ls : List B) (acc : List ((Nat × Nat) × Nat)) (k : Nat) : Prop :=
  scan n ls 0 = (acc ++ (scan n (ls.drop k) k).1, (scan n (ls.drop k) k).2)
theorem scan_start (n : Int) (ls : List B) : ScanInv n ls [] 0 := by simp [ScanInv]
theorem scan_end {n : Int} {ls : List B} {acc : List ((Nat × Nat) × Nat)} (h : ScanInv n ls acc ls.length) : scan n ls 0 = (acc, 0) := by
  rw [h, List.drop_length]; simp [scan]
theorem scan_silent {n : Int} {ls : List B} {acc : List ((Nat × Nat) × Nat)} {k : Nat} (h : ScanInv n ls acc k) (hk : k < ls.length) (hs : silent ls[k] = true) : ScanInv n ls acc (k + 1) := by
  unfold ScanInv at *; rw [h, List.drop_eq_getElem_cons hk]; simp [scan, hs]
theorem scan_bad {n : Int} {ls : List B} {acc : List ((Nat × Nat) × Nat)} {k : Nat} (h : ScanInv n ls acc k) (hk : k < ls.length) (hs : silent ls[k] = false) (he : edgeOf n ls[k] = none) : scan n ls 0 = (acc, k + 1) := by
  rw [h, List.drop_eq_getElem_cons hk]; simp [scan, hs, he]
theorem scan_edge {n : Int} {ls : List B} {acc : List ((Nat × Nat) × Nat)} {k x y : Nat} (h : ScanInv n ls acc k) (hk : k < ls.length) (hs : silent ls[k] = false) (he : edgeOf n ls[k] = some (x, y)) : ScanInv n ls (acc ++ [((x, y), k + 1)]) (k + 1) := by
  unfold ScanInv at *; rw [h, List.drop_eq_getElem_cons hk]; simp [scan, hs, he]

theorem edgeOf_lt {n : Int} {l : B} {x y : Nat} (h : edgeOf n l = some (x, y)) : (x : Int) < n ∧ (y : Int) < n ∧ x ≤ 99999 ∧ y ≤ 99999 := by
  unfold edgeOf at h
  split at h
  · cases h
  · split at h
    · rename_i a b h1 h2
      split at h
      · rename_i hh
        simp at h
        obtain ⟨rfl, rfl⟩ := h
        exact ⟨hh.1, hh.2, number_some_lt _ _ h1, number_some_lt _ _ h2⟩
      · cases h
    · cases h

theorem silent_is (s : ByteArray) (b : Bool) (h : silent s.data.toList = b) (w : World) :
    Calls Try.prog 38 #[.string s] w fun e w' => e = .returned (.bool b) ∧ w = w' :=
  (silent_any s w).mono fun e w' hh => ⟨by rw [hh.1, h], hh.2⟩
theorem refEdge_none (n : Int) (s : ByteArray) (h : edgeOf n s.data.toList = none) (w : World) (hs : s.size ≤ maxLen) :
    Calls Try.prog 39 #[.int .i64 n, .string s] w fun e w' => e = .returned (.tuple #[.agg #[.int .u32 0, .int .u32 0], .bool false]) ∧ Below w.heap.size w w' :=
  (refEdge_any n s w hs).mono fun e w' hh => ⟨by rw [hh.1, h]; rfl, hh.2⟩
theorem refEdge_some (n : Int) (s : ByteArray) (x y : Nat) (h : edgeOf n s.data.toList = some (x, y)) (w : World) (hs : s.size ≤ maxLen) :
    Calls Try.prog 39 #[.int .i64 n, .string s] w fun e w' => e = .returned (.tuple #[.agg #[.int .u32 x, .int .u32 y], .bool true]) ∧ Below w.heap.size w w' :=
  (refEdge_any n s w hs).mono fun e w' hh => ⟨by rw [hh.1, h]; rfl, hh.2⟩

theorem Try.infoTold : (Try.prog.info? 41).map (fun i => (i.zero, i.size, i.bytes)) = some (some (.agg #[.int .u32 0, .int .u32 0, .int .i64 0]), 3, 16) := by kernel_rfl

def AllPost (n : Int) (s : ByteArray) (w : World) (e : Ending) (w' : World) : Prop :=
  ∃ v, e = .returned (.tuple #[v, .int .i64 (scan n (lines s.data.toList) 0).2]) ∧
    w'.ownsRow w.heap.size 41 3 v (scan n (lines s.data.toList) 0).1.length (toldCells (scan n (lines s.data.toList) 0).1) ∧ Below w.heap.size w w' ∧ (scan n (lines s.data.toList) 0).1.length ≤ s.size

theorem told_oneCell (x y k : Int) : ∀ u ∈ [Value.int .u32 x, .int .u32 y, .int .i64 k], u.oneCell' = true := by
  intro u hu; simp at hu; rcases hu with rfl | rfl | rfl <;> rfl

set_option maxHeartbeats 1600000 in
theorem all_any (n : Int) (s : ByteArray) (w : World) (hs : s.size ≤ 16777216) :
    Calls Try.prog 16 #[.int .i64 n, .string s] w (AllPost n s w) := by
  obtain ⟨i0, hi, hz0, hz1, hz2⟩ := info_parts Try.infoTold
  go_enter Try.func16, Try.ntmps16
  go_wp2_with fail
  refine (lines_any s _ hs).mono ?_
  rintro e w1 ⟨vL, L, rfl, hownL, ⟨hlines, hsz⟩, hbL, hLs⟩
  have HL := Lib.hid hlines
  have HSZ := Lib.hid hsz
  clear hlines hsz
  have hw1 := hbL.size
  have HLL : Hid ((lines s.data.toList).length = L.length) := Lib.hid (by rw [HL.out]; simp)
  have HLK : Hid (∀ k (h : k < L.length) (h' : k < (lines s.data.toList).length), (lines s.data.toList)[k] = L[k].data.toList) := Lib.hid (by
    intro k h h'
    have := HL.out
    simp only [this, List.getElem_map])
  rcases own_cases hownL with ⟨h0, rfl⟩ | ⟨g, cap, rfl, hg1, hg2, hg3, hg4, hcell⟩
  · have R : Hid (scan n (lines s.data.toList) 0 = ([], 0)) := Lib.hid (by
      have : lines s.data.toList = [] := List.eq_nil_of_length_eq_zero (by rw [HLL.out, h0])
      rw [this]; rfl)
    clear h0 hownL
    go_wp2_with fail
    refine wp_loop_rounds 1 ?_
    rw [rounds_succ]
    go_wp2_with fail
    go_ret2
    exact ⟨.slice none 0 0, by rw [R.out]; rfl, by rw [R.out]; exact World.ownsRow_nil _ _ _ _, hbL, by rw [R.out]; simp⟩
  · have HC : Hid (∀ k (h : k < L.length), w1.cell? ⟨g, k, none⟩ = some (.string L[k])) := Lib.hid (by
      intro k h
      rw [hcell k (by omega)]
      simp [strs, h])
    have hb0 : w.heap.size ≤ w1.heap.size := hw1
    clear hcell hownL
    unfold maxLen at hg4
    go_wp2_with fail
    go_loopw [7, 8] (fun v i wr => ∃ (k : Nat) (acc : List ((Nat × Nat) × Nat)), k ≤ L.length ∧ i = .int .i64 k ∧ wr.ownsRow w1.heap.size 41 3 v acc.length (toldCells acc) ∧ Below w1.heap.size w1 wr ∧ acc.length ≤ k ∧ ScanInv n (lines s.data.toList) acc k)
      (fun _ i _ => L.length - (intOf i).toNat)
    case atStart => exact ⟨0, [], Nat.zero_le _, rfl, World.ownsRow_nil _ _ _ _, Below.refl _ _, Nat.le_refl _, scan_start _ _⟩
    case round =>
      obtain ⟨k, acc, hk, rfl, hown, hb, hak, hinv⟩ := hrel
      have HI := Lib.hid hinv
      clear hinv
      by_cases hlt : k < L.length
      · have hck : wr.cell? ⟨g, k, none⟩ = some (.string L[k]) := by rw [hb.cell (p := ⟨g, k, none⟩) hg2]; exact HC.out k hlt
        have hxs : L[k].size ≤ maxLen := by have := HSZ.out L[k] (List.getElem_mem _); simp only [maxLen]; omega
        have hkl : Hid (k < (lines s.data.toList).length) := Lib.hid (by rw [HLL.out]; exact hlt)
        have hlk := Lib.hid (HLK.out k hlt hkl.out)
        rcases hsi : silent L[k].data.toList with _ | _
        · have HS := Lib.hid hsi
          clear hsi
          rcases hed : edgeOf n L[k].data.toList with _ | ⟨x, y⟩
          · have HE := Lib.hid hed
            clear hed
            have R : Hid (scan n (lines s.data.toList) 0 = (acc, k + 1)) := Lib.hid (scan_bad HI.out hkl.out (by rw [hlk.out]; exact HS.out) (by rw [hlk.out]; exact HE.out))
            go_wp2_with fail
            refine (silent_is _ _ HS.out _).mono ?_
            rintro e w' ⟨rfl, rfl⟩
            go_wp2_with fail
            refine (refEdge_none _ _ HE.out _ hxs).mono ?_
            rintro e w2 ⟨rfl, hb2⟩
            go_wp2_with fail
            go_ret2
            have hown2 := own_base ((own_below hown hb2).alloc (.cells #[.int .u32 0, .int .u32 0] 37)) hb0
            have hbz := (hbL.trans ((hb.trans (hb2.mono hb.size)).mono hb0)).alloc (Nat.le_trans hb0 (Nat.le_trans hb.size hb2.size)) (.cells #[.int .u32 0, .int .u32 0] 37)
            exact ⟨_, by rw [R.out]; rfl, by rw [R.out]; exact hown2, hbz, by rw [R.out]; simp only []; omega⟩
          · have HE := Lib.hid hed
            have hlx := edgeOf_lt hed
            obtain ⟨_, _, hx9, hy9⟩ := hlx
            clear hed
            have HN := Lib.hid (scan_edge HI.out hkl.out (by rw [hlk.out]; exact HS.out) (by rw [hlk.out]; exact HE.out))
            go_wp2_with fail
            refine (silent_is _ _ HS.out _).mono ?_
            rintro e w' ⟨rfl, rfl⟩
            go_wp2_with fail
            refine (refEdge_some _ _ _ _ HE.out _ hxs).mono ?_
            rintro e w2 ⟨rfl, hb2⟩
            have hown2 := own_below hown hb2
            have hbw2 := hb.trans (hb2.mono hb.size)
            have hsz2 := hbw2.size
            clear hown
            go_wp2_with (at_builtin; refine wpList_append_own _ rfl _ _ 32 rfl w1.heap.size 41 i0 _ 3 16 Try.underlying32 hi hz0 hz1 hz2 rfl (by decide) _ acc.length (toldCells acc) rfl ((hown2.alloc _).alloc _) ⟨w2.heap.size + 1, 0, none⟩ 1 1 [.int .u32 x, .int .u32 y, .int .i64 (k + 1)] rfl rfl ?c1 (told_oneCell _ _ _) ?c3 ?c4 ?c5 ?_)
            case c1 => exact cells_new' _ [.int .u32 x, .int .u32 y, .int .i64 (k + 1)] _ _ (by simp)
            case c3 => simp only [maxLen]; omega
            case c4 => omega
            case c5 => simp; omega
            intro v1 w3 hown3 hg3 _
            have hb3 := ((hbw2.alloc hsz2 _).alloc (by simp; omega) _).grown hg3 (by simp; omega) (fun j hj => (hown2.lt j hj).1)
            have hown4 : w3.ownsRow w1.heap.size 41 3 v1 (acc ++ [((x, y), k + 1)]).length (toldCells (acc ++ [((x, y), k + 1)])) := by
              rw [← toldCells_snoc, List.length_append]; exact hown3
            clear hown3 hown2 hbw2 hg3
            go_wp2_with fail
            go_roundw
            case rel => exact ⟨k + 1, acc ++ [((x, y), k + 1)], by omega, by go_num, hown4, hb3, by simp; omega, HN.out⟩
            case measure => simp [intOf]; omega
        · have HS := Lib.hid hsi
          clear hsi
          have HN := Lib.hid (scan_silent HI.out hkl.out (by rw [hlk.out]; exact HS.out))
          go_wp2_with fail
          refine (silent_is _ _ HS.out _).mono ?_
          rintro e w' ⟨rfl, rfl⟩
          go_wp2_with fail
          go_roundw
          case rel => exact ⟨k + 1, acc, by omega, by go_num, hown, hb, by omega, HN.out⟩
          case measure => simp [intOf]; omega
      · obtain rfl : k = L.length := by omega
        have R : Hid (scan n (lines s.data.toList) 0 = (acc, 0)) := Lib.hid (scan_end (by rw [HLL.out]; exact HI.out))
        clear hlt hk
        go_wp2_with fail
        go_ret2
        exact ⟨_, by rw [R.out]; rfl, by rw [R.out]; exact own_base hown hb0, hbL.trans (hb.mono hb0), by rw [R.out]; simp only []; omega⟩

end Go.Proofs.Ythaicpbdlhkkkaa.edg
