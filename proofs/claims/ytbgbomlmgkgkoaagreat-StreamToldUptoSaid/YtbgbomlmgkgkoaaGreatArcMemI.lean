/- A cache's parts in memory: a map that reads as a function, a queue of keys; what stays while other blocks are written. -/
import Derived.Test.YtbgbomlmgkgkoaaGreatRows
import Derived.Test.YtbgbomlmgkgkoaaGreatShelf
import Derived.WalkKit
import Derived.WalkSpells
import Derived.BigQuiet
import Derived.Maps.Own
import Derived.Maps.OwnOps
import Derived.Maps.OwnSet
import Derived.Lib.Hide
namespace Go.Proofs.YtbgbomlmgkgkoaaGreat.arcI
open Go.RowKit
open Go.Maps (Keyed int_keyed keyOf_int_mk string_keyed)
open Go.WideMaps

abbrev K := Int
theorem keyOf_bytes_mk {P : Program} {t : TypeId} (hk : P.underlying t = some .string) {l : List UInt8} (hs : l.length ≤ maxLen) : keyOf P t (.string ⟨l.toArray⟩) = some (.string l) :=
  keyOf_string_mk hk (s := ⟨l.toArray⟩) (show l.toArray.size ≤ maxLen by simpa using hs)
theorem zeroInt (w : World) : (zeroValue 3).run Tryz.prog w = .ok (.int .i64 0) w := by kernel_rfl
theorem Tryz.infoK : (Tryz.prog.info? 3).map (fun i => (i.zero, i.size, i.bytes)) = some (some (Value.int .i64 0), 1, 8) := by kernel_rfl

/-! ### a map that reads as a function -/
def MapIs (w : World) (b N : Nat) (f : K → Nat) : Prop :=
  ∃ D : DataW Unit, w.ownsMap Tryz.prog 3 (plainElem Tryz.prog 3) b N D ∧ ∀ k : K, ((Lit.int .i64 k).wf = true) → D.atKey (Lit.int .i64 k) (.lit (.int .i64 0)) = .lit (.int .i64 (f k))

theorem MapIs.made (w : World) : MapIs (w.alloc (.map #[] 0)) w.heap.size 0 (fun _ => 0) :=
  ⟨.map [], World.ownsMap_made _ _ _ _, fun _ _ => rfl⟩
theorem MapIs.lt {w : World} {b N : Nat} {f : K → Nat} (h : MapIs w b N f) : b < w.heap.size := by obtain ⟨D, h, _⟩ := h; exact h.lt
theorem MapIs.mono {w : World} {b N N' : Nat} {f : K → Nat} (h : MapIs w b N f) (hN : N ≤ N') : MapIs w b N' f := by
  obtain ⟨D, h, hf⟩ := h; exact ⟨D, h.mono hN, hf⟩
theorem MapIs.frame {w w' : World} {b N : Nat} {f : K → Nat} (h : MapIs w b N f) (e : w'.heap[b]? = w.heap[b]?) : MapIs w' b N f := by
  obtain ⟨D, ⟨es, clock, hb, r⟩, hf⟩ := h; exact ⟨D, ⟨es, clock, e.trans hb, r⟩, hf⟩
theorem lit_inj {a b : K} (h : (Lit.int .i64 a) = (Lit.int .i64 b)) : a = b := by
  first
    | exact (Lit.int.inj h).2
    | exact Lit.string.inj h
def upd (f : K → Nat) (k : K) (v : Nat) : K → Nat := fun x => if x = k then v else f x
theorem upd_same (f : K → Nat) (k : K) (v : Nat) : upd f k v k = v := if_pos rfl
theorem upd_other (f : K → Nat) {k x : K} (v : Nat) (h : x ≠ k) : upd f k v x = f x := if_neg h
def litNat : DataW Unit → Int
  | .lit (.int _ a) => a
  | _ => 0
theorem MapIs.look {w : World} {b N : Nat} {f : K → Nat} (h : MapIs w b N f) {k : K} (hk : ((Lit.int .i64 k).wf = true)) :
    (Instr.lookup 193 (.map (some b)) (Value.int .i64 k) false).run Tryz.prog w = .ok (.int .i64 (f k)) w := by
  obtain ⟨D, h, hf⟩ := h
  obtain ⟨c, hrun, hat, _⟩ := h.lookup_int (int_keyed Tryz.underlying3) Tryz.underlying193 Tryz.underlying3 (zeroInt w) (key := (Value.int .i64 k)) (kl := (Lit.int .i64 k)) (keyOf_int_mk Tryz.underlying3 hk)
  rw [hf k hk] at hat
  have hc : ((f k : Nat) : Int) = c := congrArg litNat hat
  rw [hrun, hc]
theorem MapIs.store {w : World} {b N : Nat} {f : K → Nat} (h : MapIs w b N f) {k : K} (hk : ((Lit.int .i64 k).wf = true)) {v : Nat} (hv : (Lit.int .i64 (v : Int)).wf = true) (hN : N < maxLen) :
    ∃ w', (Instr.mapUpdate 193 (.map (some b)) (Value.int .i64 k) (.int .i64 v)).run Tryz.prog w = .ok () w' ∧ MapIs w' b (N + 1) (upd f k v) ∧ w.mapTurned w' b := by
  obtain ⟨D, h, hf⟩ := h
  obtain ⟨w', hrun, h', ht⟩ := h.store (int_keyed Tryz.underlying3) Tryz.underlying193 hN (key := (Value.int .i64 k)) (kl := (Lit.int .i64 k)) (keyOf_int_mk Tryz.underlying3 hk) (plainElem_int (H := Unit) Tryz.underlying3 hv)
  refine ⟨w', hrun, ⟨_, h', fun x hx => ?_⟩, ht⟩
  by_cases hxk : x = k
  · subst hxk
    rw [upd_same]
    exact Maps.atKey_put_same h.isMap ((int_keyed Tryz.underlying3).key (keyOf_int_mk Tryz.underlying3 hx)) _ _
  · rw [upd_other _ _ hxk, Maps.atKey_put_other (fun e => hxk (lit_inj e))]
    exact hf x hx
theorem MapIs.drop {w : World} {b N : Nat} {f : K → Nat} (h : MapIs w b N f) {k : K} (hk : ((Lit.int .i64 k).wf = true)) (ty : TypeId) :
    ∃ w', (Builtin.delete_ #[193, 3] ty #[.map (some b), (Value.int .i64 k)]).run Tryz.prog w = .ok (.tuple #[]) w' ∧ MapIs w' b N (upd f k 0) ∧ w.mapTurned w' b := by
  obtain ⟨D, h, hf⟩ := h
  obtain ⟨w', hrun, h', ht⟩ := h.drop (int_keyed Tryz.underlying3) Tryz.underlying193 (key := (Value.int .i64 k)) (kl := (Lit.int .i64 k)) (keyOf_int_mk Tryz.underlying3 hk) ty
  refine ⟨w', hrun, ⟨_, h', fun x hx => ?_⟩, ht⟩
  by_cases hxk : x = k
  · subst hxk
    rw [upd_same]
    exact Maps.atKey_del_same _
  · rw [upd_other _ _ hxk, Maps.atKey_del_other (fun e => hxk (lit_inj e))]
    exact hf x hx
theorem look_nil {w : World} {k : K} (hk : ((Lit.int .i64 k).wf = true)) : (Instr.lookup 193 (.map none) (Value.int .i64 k) false).run Tryz.prog w = .ok (.int .i64 0) w :=
  Maps.look_nil false (int_keyed Tryz.underlying3) Tryz.underlying193 (zeroInt w) (kl := (Lit.int .i64 k)) (keyOf_int_mk Tryz.underlying3 hk)
theorem drop_nil {w : World} {k : K} (hk : ((Lit.int .i64 k).wf = true)) (ty : TypeId) : (Builtin.delete_ #[193, 3] ty #[.map none, (Value.int .i64 k)]).run Tryz.prog w = .ok (.tuple #[]) w :=
  Maps.drop_nil (int_keyed Tryz.underlying3) Tryz.underlying193 (kl := (Lit.int .i64 k)) (keyOf_int_mk Tryz.underlying3 hk) ty

end Go.Proofs.YtbgbomlmgkgkoaaGreat.arcI
