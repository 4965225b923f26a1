/- Own lemmas, laid together. -/
import Derived.Test.YtflnpcgnenhogaaGreatDoorBd12
import Derived.Deep.Upon
import Derived.Deep.AppendSrc
namespace Go.Proofs.YtflnpcgnenhogaaGreatDoor.own
open Go.RowKit

theorem own_slice {w : World} {base : Nat} {e : TypeId} {size n : Nat} {v : Value} {xs : List Value} (h : w.ownsRow base e size v n xs) : ∃ a cap, v = .slice a n cap ∧ n ≤ cap := by
 rcases h.2 with ⟨rfl,h0⟩ | ⟨g,cap,cur,rfl,_,_,hn,_⟩
 ·exact ⟨none,0,by rw [h0],by omega⟩
 ·exact ⟨_,_,rfl,hn⟩

theorem run_append_row {P : Program} (w : World) (base base' : Nat) (t ty e : TypeId) (i : TypeInfo) (z : Value) (bytes : Nat) (ht : P.underlying t = some (.slice e)) (hi : P.info? e = some i) (hz : i.zero = some z)
  (hsize : i.size = 1) (hby : i.bytes = bytes) (hzs : z.cells.size = 1)
  (v : Value) (n : Nat) (xs : List Value) (hown : w.ownsRow base e 1 v n xs) (u : Value) (m : Nat) (ys : List Value) (hsrc : w.ownsRow base' e 1 u m ys) (h1 : ∀ y ∈ ys,y.oneCell' = true)
  (h63 : n + m <= maxLen) (hbytes : (n + m) * bytes <= 140737488355328) (hbase : base <= w.heap.size) :
  ∃ v' w', (Builtin.append_ #[t,t] ty #[v,u]).run P w = .ok v' w' /\ w'.ownsRow base e 1 v' (n + m) (xs ++ ys) /\ w.grownBy w' v.ownBlock /\ (v'.ownBlock = v.ownBlock \/ v'.ownBlock = some w.heap.size) := by
 obtain ⟨av,cv,hv,hle⟩ := own_slice hown
 by_cases hm : m = 0
 ·subst hm
  have hys : ys = [] := List.eq_nil_of_length_eq_zero (by have := hsrc.1; simpa using this)
  subst hys
  have hs : Src P i.size t u 0 [] w := by
   rcases hsrc.2 with ⟨rfl,_⟩ | ⟨g,cap,cur,rfl,_⟩
   ·exact Src.ofNil w ht 0
   ·exact Src.ofSlice w ht _ 0 cap [] (by simp) (fun j u hu => by simp at hu) (fun u hu => by cases hu)
  subst hv
  refine ⟨_,w,run_append_nothing w t t ty e i ht hi av n cv hle u hs,?_,⟨rfl,rfl,rfl,Nat.le_refl _,fun _ _ _ => rfl⟩,.inl rfl⟩
  rw [List.append_nil]
  exact hown
 ·rcases hsrc.2 with ⟨_,h0⟩ | ⟨g,cap,cur,rfl,hb,hg,hn,hcm,hcs,htake⟩
  ·exact absurd h0 hm
  ·have hcells : ∀ j u,ys[j]? = some u -> w.cell? ((⟨g,0,none⟩ : Addr).add j) = some u := hsrc.cells (g := g) rfl
   have hlen : ys.length = m * 1 := hsrc.1
   obtain ⟨v', w', hr,h2,h3,_⟩ := run_append_own (P := P) w base t ty e i z 1 bytes ht hi hz hsize hby hzs (by decide) v n xs hown ⟨g,0,none⟩ m cap ys hlen hcells h1 h63 hbytes hbase
   exact ⟨v', w', hr,h2,h3,append_where w base t ty e i z 1 bytes ht hi hz hsize hby v n xs hown ⟨g,0,none⟩ m cap ys hlen hcells h1 h63 hbytes (by omega) hr⟩

theorem wpList_append_row {P : Program} (w : World) {ops : Array Oper} {rest : List Oper} {o : Oper} {a : Act} {Q : Exit → Act → World → Prop} (hgd : o.guard = none) (s x : Operand) (t : TypeId)
  (ho : o.op = .call { callee := .builtin .append,args := #[s,x],argTypes := #[t,t] })
  (base base' : Nat) (e : TypeId) (i : TypeInfo) (z : Value) (bytes : Nat) (ht : P.underlying t = some (.slice e)) (hi : P.info? e = some i) (hz : i.zero = some z)
  (hsize : i.size = 1) (hby : i.bytes = bytes) (hzs : z.cells.size = 1)
  (v : Value) (n : Nat) (xs : List Value) (hs : a.eval s = v) (hown : w.ownsRow base e 1 v n xs) (u : Value) (m : Nat) (ys : List Value) (hx : a.eval x = u) (hsrc : w.ownsRow base' e 1 u m ys) (h1 : ∀ y ∈ ys,y.oneCell' = true)
  (h63 : n + m <= maxLen) (hbytes : (n + m) * bytes <= 140737488355328) (hbase : base <= w.heap.size)
  (h : ∀ v' w', w'.ownsRow base e 1 v' (n + m) (xs ++ ys) -> w.grownBy w' v.ownBlock -> (v'.ownBlock = v.ownBlock \/ v'.ownBlock = some w.heap.size) -> wpList P ops Q rest (a.put o.dst v') w') :
  wpList P ops Q (o :: rest) a w := by
 refine wpList_plain hgd fun K hK => ?_
 obtain ⟨v', w', hr,h2,h3,h4⟩ := run_append_row (P := P) w base base' t o.type e i z bytes ht hi hz hsize hby hzs v n xs hown u m ys hsrc h1 h63 hbytes hbase
 unfold Oper.wp execOp
 simp only [ho,resolve,invoke,builtin,Sem.run_bind,Sem.run_pure,Result.andThen_ok,List.map_toArray,List.map_cons,List.map_nil,hs,hx,hr]
 exact hK _ _ (h v' w' h2 h3 h4)

end Go.Proofs.YtflnpcgnenhogaaGreatDoor.own
