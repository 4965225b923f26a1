/- Contract of the program's Parse: what the scan of the lines says. -/
import Derived.Test.YthaicpbdlhkkkaaEdgProgC
namespace Go.Proofs.Ythaicpbdlhkkkaa.edg
open Go.RowKit

theorem scan_next (n : Int) : ∀ (ls : List B) (k : Nat),
    ((nextP n ls k).1 = 6 ∧ scan n ls k = ([], 0)) ∨ ((nextP n ls k).1 = 15 ∧ scan n ls k = ([], (nextP n ls k).2.2.2) ∧ 0 < (nextP n ls k).2.2.2) ∨
    ((nextP n ls k).1 = 0 ∧ scan n ls k = (((nextP n ls k).2.1, (nextP n ls k).2.2.2) :: (scan n (nextP n ls k).2.2.1 (nextP n ls k).2.2.2).1, (scan n (nextP n ls k).2.2.1 (nextP n ls k).2.2.2).2) ∧ (nextP n ls k).2.2.1.length < ls.length)
  | [], k => .inl ⟨rfl, rfl⟩
  | l :: r, k => by
    rcases hs : silent l with _ | _
    · rcases he : edgeOf n l with _ | e
      · right; left
        refine ⟨?_, ?_, ?_⟩ <;> simp [nextP, scan, hs, he]
      · right; right
        refine ⟨?_, ?_, ?_⟩ <;> simp [nextP, scan, hs, he]
    · have ih := scan_next n r (k + 1)
      have e1 : nextP n (l :: r) k = nextP n r (k + 1) := by simp [nextP, hs]
      have e2 : scan n (l :: r) k = scan n r (k + 1) := by simp [scan, hs]
      rw [e1, e2]
      rcases ih with h | h | h
      · exact .inl h
      · exact .inr (.inl h)
      · exact .inr (.inr ⟨h.1, h.2.1, by have := h.2.2; simp; omega⟩)

theorem next_lt {n : Int} {ls : List B} {k : Nat} (h : (nextP n ls k).1 = 0) : ((nextP n ls k).2.1.1 : Int) < n ∧ (nextP n ls k).2.1.1 ≤ 99999 ∧ (nextP n ls k).2.1.2 ≤ 99999 := by
  induction ls generalizing k with
  | nil => cases h
  | cons l r ih =>
    rcases hs : silent l with _ | _
    · rcases he : edgeOf n l with _ | e
      · simp [nextP, hs, he] at h
      · have e1 : nextP n (l :: r) k = (0, e, r, k + 1) := by simp [nextP, hs, he]
        rw [e1]
        have := edgeOf_lt (x := e.1) (y := e.2) he
        exact ⟨this.1, this.2.2.1, this.2.2.2⟩
    · have e1 : nextP n (l :: r) k = nextP n r (k + 1) := by simp [nextP, hs]
      rw [e1] at h ⊢
      exact ih h

def restLines (w : World) (rb : Nat) : Nat := match w.cell? ⟨rb, 1, none⟩ with
  | some (.string s) => (lines s.data.toList).length
  | _ => 0
theorem restLines_is {w : World} {rb : Nat} {n : Int} {ls : List B} {k line : Nat} {bad : Bool} (h : RdIs w rb n ls k line bad) : restLines w rb = ls.length := by
  obtain ⟨rest, _, h2, h3⟩ := h
  unfold restLines
  rw [(rd_facts h3).2.1, ← h2]

theorem next_is (n : Int) (rb : Nat) (ls : List B) (k line : Nat) (w : World) (h : RdIs w rb n ls k line false) (c x y : Nat) (r : List B) (k' : Nat) (hp : nextP n ls k = (c, (x, y), r, k')) :
    Calls Try.prog 17 #[.pointer (some ⟨rb, 0, none⟩)] w fun e w' => e = .returned (.tuple #[.agg #[.int .u32 x, .int .u32 y], .int .i64 c]) ∧ RdIs w' rb n r k' (if c = 6 then line else k') (decide (c = 15)) ∧ w.grownBy w' (some rb) :=
  (next_any n rb ls k line w h).mono fun e w' hh => by rw [hp] at hh; exact hh

theorem rd_frame {w w' : World} {rb : Nat} {n : Int} {ls : List B} {k line : Nat} {bad : Bool} (h : RdIs w rb n ls k line bad) (e : w'.heap[rb]? = w.heap[rb]?) : RdIs w' rb n ls k line bad := by
  obtain ⟨rest, a, b, c⟩ := h
  exact ⟨rest, a, b, e.trans c⟩

theorem below_at {B : Nat} {w w1 w2 : World} (hb : Below B w w1) (hg : w1.grownBy w2 (some B)) (hB : B ≤ w1.heap.size) : Below B w w2 :=
  hb.trans ⟨hg.os, hg.tape, hg.output, hg.size, fun k hk => hg.block k (by omega) (by simp; omega)⟩
theorem only_grown {a w w1 : World} {row row' : Option Nat} (h : a.grownBy w row) (hg : w.grownBy w1 row') (hr : ∀ k, row' = some k → a.heap.size ≤ k) : a.grownBy w1 row :=
  ⟨hg.os.trans h.os, hg.tape.trans h.tape, hg.output.trans h.output, Nat.le_trans h.size hg.size, fun i hi hn => (hg.block i (Nat.lt_of_lt_of_le hi h.size) (fun e => by have := hr i e.symm; omega)).trans (h.block i hi hn)⟩
theorem next_pos {n : Int} {ls : List B} {k : Nat} (h : (nextP n ls k).1 = 0) : k < (nextP n ls k).2.2.2 := by
  induction ls generalizing k with
  | nil => cases h
  | cons l r ih =>
    rcases hs : silent l with _ | _
    · rcases he : edgeOf n l with _ | e
      · simp [nextP, hs, he] at h
      · simp [nextP, hs, he]
    · have e1 : nextP n (l :: r) k = nextP n r (k + 1) := by simp [nextP, hs]
      rw [e1] at h ⊢
      have := ih h
      omega

set_option maxHeartbeats 3200000 in
theorem parse_any (n : Int) (s : ByteArray) (w : World) :
    Calls Try.prog 10 #[.int .i64 n, .string s] w (ParsePost n s w) := by
  obtain ⟨i0, hi, hz0, hz1, hz2⟩ := info_parts Try.infoEdge
  rcases hm : mayRead n s with _ | _
  · have HM := Lib.hid hm
    have R : Hid (parseRes n s = ([], 0, 1)) := Lib.hid (by unfold parseRes; rw [if_neg (by rw [hm]; simp)])
    clear hm
    go_enter Try.func10, Try.ntmps10
    go_wp2_with fail
    refine (newReader_no _ _ HM.out _).mono ?_
    rintro e w' ⟨rfl, rfl⟩
    go_wp2_with fail
    go_ret3
    exact ⟨_, by rw [R.out]; rfl, by rw [R.out]; exact World.ownsRow_nil _ _ _ _, Below.refl _ _⟩
  · have HM := Lib.hid hm
    have hs : s.size ≤ 16777216 := by unfold mayRead at hm; simp at hm; omega
    have R0 : Hid (parseRes n s = if 0 < (scan n (lines s.data.toList) 0).2 then ([], (scan n (lines s.data.toList) 0).2, 15) else ((scan n (lines s.data.toList) 0).1.map (·.1), 0, 0)) := Lib.hid (by
      unfold parseRes; rw [if_pos hm])
    clear hm
    go_enter Try.func10, Try.ntmps10
    go_wp2_with fail
    refine (newReader_yes _ _ HM.out _).mono ?_
    rintro e w1 ⟨rfl, hrd1, hb1⟩
    have hz := hb1.size
    have HRD := Lib.hid hrd1
    have hrb : w.heap.size < w1.heap.size := by obtain ⟨_, _, _, h⟩ := hrd1; exact lt_of_block h
    clear hrd1
    go_wp2_with fail
    go_loopw [9] (fun v wr => ∃ (acc : List (Nat × Nat)) (ls : List B) (k line : Nat), RdIs wr w.heap.size n ls k line false ∧ wr.ownsRow w1.heap.size 37 2 v acc.length (edgeCells acc) ∧ w1.grownBy wr (some w.heap.size) ∧
        (scan n (lines s.data.toList) 0).1.map (·.1) = acc ++ (scan n ls k).1.map (·.1) ∧ (scan n (lines s.data.toList) 0).2 = (scan n ls k).2 ∧ acc.length ≤ k) (fun _ wr => restLines wr w.heap.size)
    case atStart => exact ⟨[], lines s.data.toList, 0, 0, HRD.out, World.ownsRow_nil _ _ _ _, only_refl _ _, rfl, rfl, Nat.le_refl _⟩
    case round =>
      obtain ⟨acc, ls, k, line, hrd, hown, hgr, hs1, hs2, hak⟩ := hrel
      have hk : k ≤ 16777216 := by obtain ⟨_, h, _⟩ := hrd; omega
      have H1 := Lib.hid hs1
      have H2 := Lib.hid hs2
      have HM1 : Hid (restLines wr w.heap.size = ls.length) := Lib.hid (restLines_is hrd)
      have hgz := hgr.size
      have HSN := Lib.hid (scan_next n ls k)
      have HLT := Lib.hid (@next_lt n ls k)
      clear hs1 hs2
      rcases hp : nextP n ls k with ⟨c, ⟨x, y⟩, r, k'⟩
      have HP := Lib.hid hp
      have hh := HSN.out
      rw [hp] at hh
      have ht := HLT.out
      rw [hp] at ht
      clear hp HSN HLT
      simp only [] at hh ht
      rcases hh with ⟨hc, hsc⟩ | ⟨hc, hsc, hk'⟩ | ⟨hc, hsc, hlen⟩
      · subst hc
        have R : Hid (parseRes n s = (acc, 0, 0)) := Lib.hid (by rw [R0.out, H2.out, H1.out, hsc]; simp)
        clear ht hsc
        go_wp2_with fail
        refine (next_is n _ ls k line _ hrd _ _ _ _ _ HP.out).mono ?_
        rintro e w2 ⟨rfl, hrd2, hg2⟩
        have hown2 := hown.kept hg2 (by rcases hv : Value.ownBlock u9 with _ | g; exact .inl rfl; right; have := (hown.lt g hv).1; simp; omega)
        have HG := Lib.hid (only_trans hgr hg2)
        clear hrd2 hown hg2
        go_wp2_with fail
        go_ret3
        exact ⟨_, by rw [R.out]; rfl, by rw [R.out]; exact own_base (hown2.alloc _) hz, (below_at hb1 HG.out hz).alloc (Nat.le_trans hz HG.out.size) _⟩
      · subst hc
        have R : Hid (parseRes n s = ([], k', 15)) := Lib.hid (by rw [R0.out, H2.out, hsc]; exact if_pos hk')
        clear ht hsc
        go_wp2_with fail
        refine (next_is n _ ls k line _ hrd _ _ _ _ _ HP.out).mono ?_
        rintro e w2 ⟨rfl, hrd2, hg2⟩
        have HG := Lib.hid (only_trans hgr hg2)
        have HR2 := Lib.hid hrd2
        clear hrd2 hown hg2 hgr hrd
        go_wp2_with fail
        refine (line_any w.heap.size n r k' k' true _ (by obtain ⟨a, b, c, d⟩ := HR2.out; exact ⟨a, b, c, rd_alloc d⟩)).mono ?_
        rintro e w3 ⟨rfl, rfl⟩
        go_wp2_with fail
        go_ret3
        exact ⟨_, by rw [R.out]; rfl, by rw [R.out]; exact World.ownsRow_nil _ _ _ _, (below_at hb1 HG.out hz).alloc (Nat.le_trans hz HG.out.size) _⟩
      · subst hc
        obtain ⟨_, hx9, hy9⟩ := ht rfl
        have N1 : Hid ((scan n (lines s.data.toList) 0).1.map (·.1) = (acc ++ [(x, y)]) ++ (scan n r k').1.map (·.1)) := Lib.hid (by rw [H1.out, hsc]; simp)
        have N2 : Hid ((scan n (lines s.data.toList) 0).2 = (scan n r k').2) := Lib.hid (by rw [H2.out, hsc])
        clear ht hsc H1 H2
        go_wp2_with fail
        refine (next_is n _ ls k line _ hrd _ _ _ _ _ HP.out).mono ?_
        rintro e w2 ⟨rfl, hrd2, hg2⟩
        have hown2 := hown.kept hg2 (by rcases hv : Value.ownBlock u9 with _ | g; exact .inl rfl; right; have := (hown.lt g hv).1; simp; omega)
        have HG := Lib.hid (only_trans hgr hg2)
        have hsz2 : w1.heap.size ≤ w2.heap.size := HG.out.size
        have HR2 := Lib.hid hrd2
        have hk' : k' ≤ 16777216 := by obtain ⟨_, h, _⟩ := hrd2; omega
        have hkk : acc.length + 1 ≤ k' := by have := next_pos (n := n) (ls := ls) (k := k) (by rw [HP.out]); rw [HP.out] at this; simp only [] at this; omega
        clear hrd2 hown hg2 hgr hrd
        go_wp2_with (at_builtin; refine wpList_append_own _ rfl _ _ 22 rfl w1.heap.size 37 i0 _ 2 8 Try.underlying22 hi hz0 hz1 hz2 rfl (by decide) _ acc.length (edgeCells acc) rfl ((hown2.alloc _).alloc _) ⟨w2.heap.size + 1, 0, none⟩ 1 1 [.int .u32 x, .int .u32 y] rfl rfl ?c1 (edge_oneCell _ _) ?c3 ?c4 ?c5 ?_)
        try case c1 => exact cells_new' _ [.int .u32 x, .int .u32 y] _ _ (by simp)
        case c3 => simp only [maxLen]; omega
        case c4 => omega
        case c5 => simp; omega
        intro v1 w3 hown3 hg3 _
        have hown4 : w3.ownsRow w1.heap.size 37 2 v1 (acc ++ [(x, y)]).length (edgeCells (acc ++ [(x, y)])) := by
          rw [← edgeCells_snoc, List.length_append]; exact hown3
        have HG3 : Hid (w1.grownBy w3 (some w.heap.size)) := Lib.hid (only_grown (only_alloc (only_alloc HG.out _) _) hg3 (fun j hj => (hown2.lt j hj).1))
        have HR3 : Hid (RdIs w3 w.heap.size n r k' k' false) := Lib.hid (by
          have h := HR2.out
          refine rd_frame (rd_frame h (w' := (w2.alloc (.cells #[.int .u32 x, .int .u32 y] 37)).alloc (.cells #[.int .u32 x, .int .u32 y] 37)) ?_) (hg3.block _ (by simp; omega) ?_)
          · rw [Below.heap_alloc _ _ _ (by simp; omega), Below.heap_alloc _ _ _ (by omega)]
          · intro h; have := (hown2.lt w.heap.size h.symm).1; omega)
        clear hown3 hown2 hg3
        go_wp2_with fail
        go_roundw
        case rel => exact ⟨acc ++ [(x, y)], r, k', k', HR3.out, hown4, HG3.out, N1.out, N2.out, by simp; omega⟩
        case measure => rw [HM1.out, restLines_is HR3.out]; exact hlen

end Go.Proofs.Ythaicpbdlhkkkaa.edg
