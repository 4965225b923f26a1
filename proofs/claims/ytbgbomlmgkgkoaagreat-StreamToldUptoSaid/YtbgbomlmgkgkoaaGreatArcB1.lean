/- Statement ArcBounded: what the law calls besides the cache: run, allPinned, awake. -/
import Derived.BigQuiet
import Derived.BigRegion
import Derived.Test.YtbgbomlmgkgkoaaGreatArcVI
namespace Go.Proofs.YtbgbomlmgkgkoaaGreat.arcI
open Go.RowKit Go.Proofs.YtbgbomlmgkgkoaaGreat.own

/-- a call by its kind -/
def runS (s : St) (kind : Int) (k : K) : St × Bool × Option K × Nat :=
  if kind = 0 then touchS s k
  else if kind = 1 then ((pinR s k).1, false, none, (pinR s k).2)
  else if kind = 2 then ((unpinR s k).1, false, none, (unpinR s k).2)
  else if kind = 3 then ((dropR s k).1, false, none, (dropR s k).2)
  else (s, false, none, 0)

theorem Mid.set3at {x x' : Nat → Nat} {c0 : Nat} {w w' : World} (h : Mid x x' c0 w w') {b : Nat} (hb : w.heap.size ≤ b) (u0 u1 u2 : Value) :
    Mid x x' c0 w (((w'.setCell ⟨b, 0, none⟩ u0).setCell ⟨b, 1, none⟩ u1).setCell ⟨b, 2, none⟩ u2) :=
  h.temp rfl rfl rfl (by simp) (fun c hc => set3_other w' (by omega) u0 u1 u2)

def RunPost (x : Nat → Nat) (c0 cb : Nat) (s : St) (N : Nat) (kind : Int) (k : K) (w : World) (e : Ending) (w' : World) : Prop :=
  e = .returned (.tuple #[touchedV (runS s kind k).2.1 (runS s kind k).2.2.1, .int .i64 (runS s kind k).2.2.2]) ∧ Turned x c0 w w' cb (runS s kind k).1 (N + 2)

/-! ### allPinned -/
def cntP (s : St) (l : List K) : Nat := l.countP fun k => decide (0 < s.pins k)
theorem cntP_take (s : St) (l : List K) (k : Nat) (h : k < l.length) : cntP s (l.take (k + 1)) = cntP s (l.take k) + (if 0 < s.pins l[k] then 1 else 0) := by
  unfold cntP
  rw [List.take_succ_eq_append_getElem h, List.countP_append, List.countP_singleton]
  by_cases hp : 0 < s.pins l[k] <;> simp [hp]
theorem cntP_all {s : St} {l : List K} (h : ∀ a ∈ l, 0 < s.pins a) : cntP s l = l.length := by
  unfold cntP
  exact List.countP_eq_length.2 (fun a ha => decide_eq_true (h a ha))

/-! ### awake -/
theorem _root_.Go.Proofs.YtbgbomlmgkgkoaaGreat.own.Fr.below_all {x x' : Nat → Nat} {C : Nat → Prop} {w w' : World} (h : Fr x x' C w w') (hC : ∀ b, b < w.heap.size → ¬ C (x b)) : Below w.heap.size w w' :=
  ⟨h.os, h.tape, h.output, h.size, fun b hb => h.old b hb (hC b hb)⟩
def aw1 : St := ⟨2, [1], [], [], [], 0, fun _ => 0⟩
def aw2 : St := ⟨2, [1, 2], [], [], [], 0, fun _ => 0⟩
def aw3 : St := ⟨2, [2], [1], [], [], 0, fun _ => 0⟩
def aw4 : St := ⟨2, [3], [1], [2], [], 0, fun _ => 0⟩
theorem awk1 : touchS (newS 2) 1 = (aw1, false, none, 0) := by rfl
theorem awk2 : touchS aw1 2 = (aw2, false, none, 0) := by rfl
theorem awk3 : touchS aw2 1 = (aw3, true, none, 0) := by rfl
theorem awk4 : touchS aw3 3 = (aw4, false, some 2, 0) := by rfl

end Go.Proofs.YtbgbomlmgkgkoaaGreat.arcI
