/- The contracts of a cache's Pins, Target, Pin, Unpin, Lists, New. -/
import Derived.BigQuiet
import Derived.BigRegion
import Derived.Deep.RegionWith
import Derived.Test.YtbgbomlmgkgkoaaGreatArcT2I
namespace Go.Proofs.YtbgbomlmgkgkoaaGreat.arcI
open Go.RowKit Go.Proofs.YtbgbomlmgkgkoaaGreat.own

theorem grown_trans {w w1 w2 : World} {row : Option Nat} (h : w.grownBy w1 row) (k : w1.grownBy w2 row) : w.grownBy w2 row :=
  ⟨k.os.trans h.os, k.tape.trans h.tape, k.output.trans h.output, Nat.le_trans h.size k.size, fun b hb hne => (k.block b (Nat.lt_of_lt_of_le hb h.size) hne).trans (h.block b hb hne)⟩

theorem cache_pins {x : Nat → Nat} {c0 : Nat} {w : World} {cb : Nat} {s : St} {N : Nat} (h : CIs x c0 w cb s N) :
    ∃ pm, w.cell? ⟨cb, 10, none⟩ = some (.map (some pm)) ∧ MapIs w pm N s.pins ∧ cb ≠ pm ∧ ∀ w' N' f, N ≤ N' → w.grownBy w' (some pm) → MapIs w' pm N' f → Turned x c0 w w' cb { s with pins := f } N' := by
  obtain ⟨a1, m1, a2, m2, a3, m3, a4, m4, pm, h0, hx, q1, q2, q3, q4, hp, hm⟩ := h
  refine ⟨pm, by rw [cell_of_row w cb _ _ _ _ h0]; rfl, hm, by rintro rfl; omega, fun w' N' f hN hg hm' => ?_⟩
  have kp : Keeps w w' (fun b => b = pm) := (Keeps.refl w _).grown hg (fun j hj => by injection hj with hj; exact .inl hj.symm)
  have hf : Fr x (paint x w.heap.size (c0 + 5)) (fun e => e = c0 + 5) w w' := kp.fr rfl (fun b hb e => by rw [e]; exact hp)
  have hlt := lt_of_block h0
  refine ⟨_, hf.mono (fun e he => by subst he; exact ⟨by omega, Nat.le_refl _⟩), a1, m1, a2, m2, a3, m3, a4, m4, pm, ?_, ?_, (q1.frame hf (by omega)).mono hN, (q2.frame hf (by omega)).mono hN, (q3.frame hf (by omega)).mono hN, (q4.frame hf (by omega)).mono hN, ?_, hm'⟩
  · rw [hf.old cb hlt (by rw [hx]; omega)]; exact h0
  · rw [hf.col cb hlt]; exact hx
  · rw [hf.col pm hm.lt]; exact hp

def pinR (s : St) (k : K) : St × Nat := if k ∈ s.once ∨ k ∈ s.often then (pinS s k, 0) else (s, 6)
def unpinR (s : St) (k : K) : St × Nat := if k ∈ s.once ∨ k ∈ s.often then (if s.pins k = 0 then (s, 16) else (unpinS s k, 0)) else (s, 6)

def isRow (w : World) (base : Nat) (v : Value) (keys : List K) : Prop := w.ownsRow base 3 1 v keys.length (kvs keys)
theorem isRow.later {w w' : World} {base : Nat} {v : Value} {keys : List K} (h : isRow w base v keys) (hb : Below w.heap.size w w') : isRow w' base v keys := own_below h hb
theorem below_trans {B B' : Nat} {w w1 w2 : World} (h : Below B w w1) (k : Below B' w1 w2) (hB' : B ≤ B') : Below B w w2 :=
  ⟨k.os.trans h.os, k.tape.trans h.tape, k.output.trans h.output, Nat.le_trans h.size k.size, fun b hb => (k.block b (by omega)).trans (h.block b hb)⟩

def ListPost (w : World) (s : St) (e : Ending) (w' : World) : Prop :=
  ∃ v1 v2 v3 v4, e = .returned (.tuple #[v1, v2, v3, v4]) ∧ Below w.heap.size w w' ∧ isRow w' w.heap.size v1 s.once.reverse ∧ isRow w' w.heap.size v2 s.often.reverse ∧ isRow w' w.heap.size v3 s.wonce.reverse ∧ isRow w' w.heap.size v4 s.woften.reverse

theorem CIs.below {x : Nat → Nat} {c0 : Nat} {w w' : World} {cb : Nat} {s : St} {N : Nat} (h : CIs x c0 w cb s N) (hb : Below w.heap.size w w') : CIs (paint x w.heap.size (c0 + 6)) c0 w' cb s N :=
  h.temp (Fr.of_below hb rfl)

def newS (n : Nat) : St := ⟨n, [], [], [], [], 0, fun _ => 0⟩
theorem newS_ok (n : Nat) (h : 1 ≤ n ∧ n ≤ 4096) : Ok (newS n) :=
  ⟨h, Nat.zero_le _, Nat.zero_le _, Nat.zero_le _, Nat.zero_le _, fun a => by show 0 + 0 + 0 + 0 ≤ 1; omega, fun a ha => by simp [newS] at ha, fun a ha => absurd ha (by show ¬ (0 < 0); omega)⟩

set_option maxHeartbeats 1600000 in
theorem New_any (x : Nat → Nat) (c0 : Nat) (n : Nat) (h1 : 1 ≤ n) (h2 : n ≤ 4096) (w : World) :
    Calls Tryz.prog 46 #[.int .i64 n] w fun e w' => ∃ cb x', e = .returned (.tuple #[.pointer (some ⟨cb, 0, none⟩), .int .i64 0]) ∧ Fr x x' (CD c0) w w' ∧ CIs x' c0 w' cb (newS n) 0 ∧ Below w.heap.size w w' := by
  have hmm := @run_makeMap Tryz.prog
  go_enter Tryz.func46, Tryz.ntmps46
  go_wp2_with fail
  go_ret2
  have hs1 : (w.alloc (.map #[] 0)).heap.size = w.heap.size + 1 := by simp
  have hmap : MapIs ((w.alloc (.map #[] 0)).alloc (.cells (cacheCells n (.slice none 0 0) (.map none) (.slice none 0 0) (.map none) (.slice none 0 0) (.map none) (.slice none 0 0) (.map none) 0 w.heap.size) 197)) w.heap.size 0 (fun _ => 0) :=
    (MapIs.made w).frame (Below.heap_alloc _ _ _ (by rw [hs1]; omega))
  have hcell := heap_alloc_new (w.alloc (.map #[] 0)) (.cells (cacheCells n (.slice none 0 0) (.map none) (.slice none 0 0) (.map none) (.slice none 0 0) (.map none) (.slice none 0 0) (.map none) 0 w.heap.size) 197)
  rw [hs1] at hcell
  refine ⟨w.heap.size + 1, fun b => if b < w.heap.size then x b else if b = w.heap.size then c0 + 5 else c0, rfl, ⟨rfl, rfl, rfl, by simp; omega, fun b hb => if_pos hb, fun b h1 _ => ?_, fun b hb _ => ?_⟩, ?_, ((Below.refl _ _).alloc (Nat.le_refl _) _).alloc (by rw [hs1]; omega) _⟩
  · show CD c0 (if b < w.heap.size then x b else if b = w.heap.size then c0 + 5 else c0)
    rw [if_neg (by omega)]
    split
    · exact ⟨by omega, Nat.le_refl _⟩
    · exact ⟨Nat.le_refl _, by omega⟩
  · rw [Below.heap_alloc _ _ _ (by rw [hs1]; omega), Below.heap_alloc _ _ _ hb]
  · refine ⟨_, _, _, _, _, _, _, _, w.heap.size, hcell, ?_, QP.nil _ _ _ _, QP.nil _ _ _ _, QP.nil _ _ _ _, QP.nil _ _ _ _, ?_, hmap⟩
    · show (if w.heap.size + 1 < w.heap.size then x (w.heap.size + 1) else if w.heap.size + 1 = w.heap.size then c0 + 5 else c0) = c0
      rw [if_neg (by omega), if_neg (by omega)]
    · show (if w.heap.size < w.heap.size then x w.heap.size else if w.heap.size = w.heap.size then c0 + 5 else c0) = c0 + 5
      rw [if_neg (by omega), if_pos rfl]

end Go.Proofs.YtbgbomlmgkgkoaaGreat.arcI
