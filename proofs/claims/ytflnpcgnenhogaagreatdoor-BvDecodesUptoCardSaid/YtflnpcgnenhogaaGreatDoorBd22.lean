/- Own lemmas, laid together. -/
import Derived.Test.YtflnpcgnenhogaaGreatDoorBd20
import Derived.Deep.RegionLaw
namespace Go.Proofs.YtflnpcgnenhogaaGreatDoor.bit
open Go.RowKit Go.Proofs.YtflnpcgnenhogaaGreatDoor.own

theorem wp_append_row {P : Program} (w : World) {o : Oper} {a : Act} {K : Act → World → Prop} {Q : Exit → Act → World → Prop} {c : Bool} {E : Prop} (hc : c = true) (s x : Operand) (t : TypeId)
  (ho : o.op = .call { callee := .builtin .append,args := #[s,x],argTypes := #[t,t] })
  (base base' : Nat) (e : TypeId) (i : TypeInfo) (z : Value) (bytes : Nat) (ht : P.underlying t = some (.slice e)) (hi : P.info? e = some i) (hz : i.zero = some z)
  (hsize : i.size = 1) (hby : i.bytes = bytes) (hzs : z.cells.size = 1)
  (v : Value) (n : Nat) (xs : List Value) (hs : a.eval s = v) (hown : w.ownsRow base e 1 v n xs) (u : Value) (m : Nat) (ys : List Value) (hx : a.eval x = u) (hsrc : w.ownsRow base' e 1 u m ys) (h1 : ∀ y ∈ ys,y.oneCell' = true)
  (h63 : n + m <= maxLen) (hbytes : (n + m) * bytes <= 140737488355328) (hbase : base <= w.heap.size)
  (h : ∀ v' w', w'.ownsRow base e 1 v' (n + m) (xs ++ ys) -> w.grownBy w' v.ownBlock -> (v'.ownBlock = v.ownBlock \/ v'.ownBlock = some w.heap.size) -> K (a.put o.dst v') w') :
  if c = true then Oper.wp P o a w K Q else E := by
 rw [if_pos hc]
 obtain ⟨v', w', hr,h2,h3,h4⟩ := run_append_row (P := P) w base base' t o.type e i z bytes ht hi hz hsize hby hzs v n xs hown u m ys hsrc h1 h63 hbytes hbase
 unfold Oper.wp execOp
 simp only [ho,resolve,invoke,builtin,Sem.run_bind,Sem.run_pure,Result.andThen_ok,List.map_toArray,List.map_cons,List.map_nil,hs,hx,hr]
 exact h v' w' h2 h3 h4

end Go.Proofs.YtflnpcgnenhogaaGreatDoor.bit
