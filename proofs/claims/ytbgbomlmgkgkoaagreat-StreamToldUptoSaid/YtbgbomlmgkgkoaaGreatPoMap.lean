/- pool: a map from numbers to values of whatever kind, that reads as a function and tells how many it holds. -/
import Derived.Test.YtbgbomlmgkgkoaaGreatRows
import Derived.WalkKit
import Derived.WalkSpells
import Derived.BigQuiet
import Derived.Maps.Own
import Derived.Maps.OwnOps
import Derived.Maps.OwnSet
import Derived.Maps.Views
import Derived.Lib.Hide
namespace Go.Proofs.YtbgbomlmgkgkoaaGreat.po
open Go.RowKit
open Go.Maps (Keyed int_keyed keyOf_int_mk)
open Go.WideMaps

def anyElem (v : Value) : Option (DataW Value × List MemPlace) := some (.held v, [])
def KOK (k : Int) : Prop := (Lit.int .i64 k).wf = true
def updO (f : Int → Option Value) (k : Int) (v : Option Value) : Int → Option Value := fun x => if x = k then v else f x
theorem updO_same (f : Int → Option Value) (k : Int) (v : Option Value) : updO f k v k = v := if_pos rfl
theorem updO_other (f : Int → Option Value) {k x : Int} (v : Option Value) (h : x ≠ k) : updO f k v x = f x := if_neg h

def VM (w : World) (b N : Nat) (f : Int → Option Value) (n : Nat) : Prop :=
  ∃ D : DataW Value, w.ownsMap Tryz.prog 3 anyElem b N D ∧ (∀ k, KOK k → Maps.has D (.int .i64 k) = (f k).isSome) ∧ (∀ k v z, KOK k → f k = some v → D.atKey (.int .i64 k) z = .held v) ∧ Maps.size D = n
theorem VM.made (w : World) : VM (w.alloc (.map #[] 0)) w.heap.size 0 (fun _ => none) 0 :=
  ⟨.map [], World.ownsMap_made _ _ _ _, fun _ _ => rfl, fun _ _ _ _ h => by (cases h), rfl⟩
theorem VM.lt {w : World} {b N n : Nat} {f : Int → Option Value} (h : VM w b N f n) : b < w.heap.size := by obtain ⟨D, h, _⟩ := h; exact h.lt
theorem VM.mono {w : World} {b N N' n : Nat} {f : Int → Option Value} (h : VM w b N f n) (hN : N ≤ N') : VM w b N' f n := by
  obtain ⟨D, h, r⟩ := h; exact ⟨D, h.mono hN, r⟩
theorem VM.frame {w w' : World} {b N n : Nat} {f : Int → Option Value} (h : VM w b N f n) (e : w'.heap[b]? = w.heap[b]?) : VM w' b N f n := by
  obtain ⟨D, ⟨es, clock, hb, r⟩, hf⟩ := h; exact ⟨D, ⟨es, clock, e.trans hb, r⟩, hf⟩
theorem held_inj {a b : Value} (h : (DataW.held a : DataW Value) = .held b) : a = b := by injection h
theorem VM.look {w : World} {b N n : Nat} {f : Int → Option Value} (h : VM w b N f n) {k : Int} (hk : KOK k) {t e : TypeId} (ht : Tryz.prog.underlying t = some (.map 3 e)) {z : Value} (hz : (zeroValue e).run Tryz.prog w = .ok z w) :
    (Instr.lookup t (.map (some b)) (.int .i64 k) false).run Tryz.prog w = .ok ((f k).getD z) w := by
  obtain ⟨D, h, h1, h2, _⟩ := h
  obtain ⟨v, ps, hrun, hv⟩ := h.lookup (int_keyed Tryz.underlying3) ht hz (zd := .held z) (zp := []) rfl (key := .int .i64 k) (kl := .int .i64 k) (keyOf_int_mk Tryz.underlying3 hk)
  have e1 : (DataW.held v : DataW Value) = D.atKey (.int .i64 k) (.held z) := (Prod.mk.inj (Option.some.inj hv)).1
  rw [hrun]
  rcases hf : f k with _ | u
  · have := h1 k hk
    rw [hf] at this
    rw [Maps.atKey_of_not_has this] at e1
    rw [held_inj e1]
    rfl
  · rw [h2 k u _ hk hf] at e1
    rw [held_inj e1]
    rfl
theorem VM.look_ok {w : World} {b N n : Nat} {f : Int → Option Value} (h : VM w b N f n) {k : Int} (hk : KOK k) {t e : TypeId} (ht : Tryz.prog.underlying t = some (.map 3 e)) {z : Value} (hz : (zeroValue e).run Tryz.prog w = .ok z w) :
    (Instr.lookup t (.map (some b)) (.int .i64 k) true).run Tryz.prog w = .ok (.tuple #[(f k).getD z, .bool (f k).isSome]) w := by
  obtain ⟨D, h, h1, h2, _⟩ := h
  obtain ⟨v, ps, hrun, hv⟩ := h.look_ok (int_keyed Tryz.underlying3) ht hz (zd := .held z) (zp := []) rfl (key := .int .i64 k) (kl := .int .i64 k) (keyOf_int_mk Tryz.underlying3 hk)
  have e1 : (DataW.held v : DataW Value) = D.atKey (.int .i64 k) (.held z) := (Prod.mk.inj (Option.some.inj hv)).1
  rw [hrun, h1 k hk]
  rcases hf : f k with _ | u
  · have := h1 k hk
    rw [hf] at this
    rw [Maps.atKey_of_not_has this] at e1
    rw [held_inj e1]
    rfl
  · rw [h2 k u _ hk hf] at e1
    rw [held_inj e1]
    rfl
theorem lit_ne {k x : Int} (h : x ≠ k) : (Lit.int .i64 x) ≠ Lit.int .i64 k := fun e => h (Lit.int.inj e).2
theorem VM.store {w : World} {b N n : Nat} {f : Int → Option Value} (h : VM w b N f n) {k : Int} (hk : KOK k) {t e : TypeId} (ht : Tryz.prog.underlying t = some (.map 3 e)) (v : Value) (hN : N < maxLen) :
    ∃ w', (Instr.mapUpdate t (.map (some b)) (.int .i64 k) v).run Tryz.prog w = .ok () w' ∧ VM w' b (N + 1) (updO f k (some v)) (if (f k).isSome then n else n + 1) ∧ w.mapTurned w' b := by
  obtain ⟨D, h, h1, h2, h3⟩ := h
  have kl := (int_keyed Tryz.underlying3).key (keyOf_int_mk Tryz.underlying3 hk)
  obtain ⟨w', hrun, h', ht⟩ := h.store (int_keyed Tryz.underlying3) ht hN (key := .int .i64 k) (kl := .int .i64 k) (keyOf_int_mk Tryz.underlying3 hk) (val := v) (d := .held v) (ps := []) rfl
  refine ⟨w', hrun, ⟨_, h', fun x hx => ?_, fun x u z hx hu => ?_, ?_⟩, ht⟩
  · by_cases e : x = k
    · subst e; rw [updO_same]; exact Maps.has_put_same h.isMap kl _
    · rw [updO_other _ _ e, Maps.has_put_other (lit_ne e)]; exact h1 x hx
  · by_cases e : x = k
    · subst e
      rw [updO_same] at hu
      obtain rfl := Option.some.inj hu
      exact Maps.atKey_put_same h.isMap kl _ _
    · rw [updO_other _ _ e] at hu
      rw [Maps.atKey_put_other (lit_ne e)]; exact h2 x u z hx hu
  · rw [Maps.size_put (h.tidy (int_keyed Tryz.underlying3)), h1 k hk, h3]
theorem VM.drop {w : World} {b N n : Nat} {f : Int → Option Value} (h : VM w b N f n) {k : Int} (hk : KOK k) {t e : TypeId} (ht : Tryz.prog.underlying t = some (.map 3 e)) (ty : TypeId) :
    ∃ w', (Builtin.delete_ #[t, 3] ty #[.map (some b), .int .i64 k]).run Tryz.prog w = .ok (.tuple #[]) w' ∧ VM w' b N (updO f k none) (if (f k).isSome then n - 1 else n) ∧ w.mapTurned w' b := by
  obtain ⟨D, h, h1, h2, h3⟩ := h
  obtain ⟨w', hrun, h', ht⟩ := h.drop (int_keyed Tryz.underlying3) ht (key := .int .i64 k) (kl := .int .i64 k) (keyOf_int_mk Tryz.underlying3 hk) ty
  refine ⟨w', hrun, ⟨_, h', fun x hx => ?_, fun x u z hx hu => ?_, ?_⟩, ht⟩
  · by_cases e : x = k
    · subst e; rw [updO_same]; exact Maps.has_del_same
    · rw [updO_other _ _ e, Maps.has_del_other (lit_ne e)]; exact h1 x hx
  · by_cases e : x = k
    · subst e
      rw [updO_same] at hu
      cases hu
    · rw [updO_other _ _ e] at hu
      rw [Maps.atKey_del_other (lit_ne e)]; exact h2 x u z hx hu
  · have := Maps.size_del (k := .int .i64 k) (h.tidy (int_keyed Tryz.underlying3))
    rw [h1 k hk, h3] at this
    cases hf : (f k).isSome
    · rw [hf] at this; simpa using this
    · rw [hf] at this
      simp only [if_true] at this ⊢
      omega
theorem VM.len {w : World} {b N n : Nat} {f : Int → Option Value} (h : VM w b N f n) {t e : TypeId} (ht : Tryz.prog.underlying t = some (.map 3 e)) (ty : TypeId) : (Builtin.len_ #[t] ty #[.map (some b)]).run Tryz.prog w = .ok (.int .i64 n) w := by
  obtain ⟨D, h, _, _, h3⟩ := h
  rw [h.len ht ty, h3]
theorem VM.size_le {w : World} {b N n : Nat} {f : Int → Option Value} (h : VM w b N f n) : n ≤ N := by
  obtain ⟨D, h, _, _, h3⟩ := h
  rw [← h3]
  exact h.size_le
end Go.Proofs.YtbgbomlmgkgkoaaGreat.po
