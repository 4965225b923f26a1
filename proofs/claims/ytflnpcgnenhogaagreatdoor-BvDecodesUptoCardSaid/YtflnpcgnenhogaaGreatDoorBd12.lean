/- Own lemmas, laid together. -/
import Derived.Test.YtflnpcgnenhogaaGreatDoorRows
import Derived.WalkKit
import Derived.Deep.QuietTactic
import Derived.Laws.IdiomCopy
import Derived.Lib.Hide
namespace Go.Proofs.YtflnpcgnenhogaaGreatDoor.own
open Go.RowKit

theorem append_where {P : Program} (w : World) (base : Nat) (t ty e : TypeId) (i : TypeInfo) (z : Value) (size bytes : Nat) (ht : P.underlying t = some (.slice e)) (hi : P.info? e = some i) (hz : i.zero = some z)
  (hsize : i.size = size) (hby : i.bytes = bytes)
  (v : Value) (n : Nat) (xs : List Value) (hown : w.ownsRow base e size v n xs)
  (a : Addr) (m c : Nat) (news : List Value) (hl : news.length = m * size) (hnews : ∀ j u,news[j]? = some u -> w.cell? (a.add j) = some u) (h1 : ∀ u ∈ news,u.oneCell' = true)
  (h63 : n + m <= maxLen) (hbytes : (n + m) * bytes <= 140737488355328) (hm0 : 0 < m) {v' : Value} {w' : World}
  (hrun : (Builtin.append_ #[t,t] ty #[v,.slice (some a) m c]).run P w = .ok v' w') : v'.ownBlock = v.ownBlock \/ v'.ownBlock = some w.heap.size := by
 subst hsize
 subst hby
 unfold maxLen at h63
 rcases hown.2 with ⟨rfl,rfl⟩ | ⟨g,cap,cur,rfl,hbg,hg,hnc,hcm,hcs,htake⟩
 ·have hr := run_append_nil (P := P) w t ty e i z ht hi hz a m c news hl hnews hm0 (by omega) (by simp only [Nat.zero_add] at hbytes; omega)
  rw [hr] at hrun
  injection hrun with h2 _
  subst h2
  exact .inr rfl
 ·by_cases hroom : n + m <= cap
  ·have hfit : n * i.size + news.length <= cur.size := by rw [hl,hcs,<- Nat.add_mul]; exact Nat.mul_le_mul_right _ hroom
   have hr := run_append_room (P := P) w t ty e i ht hi g n cap cur hg a m c news hl hnews h1 hroom hfit
   rw [hr] at hrun
   injection hrun with h2 _
   subst h2
   exact .inl rfl
  ·have holds : ∀ j u,xs[j]? = some u -> w.cell? ((⟨g,0,none⟩ : Addr).add j) = some u := hown.cells (g := g) rfl
   have hr := run_append_grow (P := P) w t ty e i z ht hi hz ⟨g,0,none⟩ n cap xs hown.1 holds a m c news hl hnews (by omega) (by omega) (growslice_fits (by omega) hbytes)
   rw [hr] at hrun
   injection hrun with h2 _
   subst h2
   exact .inr rfl

theorem wpList_append_at {P : Program} (w : World) {ops : Array Oper} {rest : List Oper} {o : Oper} {a : Act} {Q : Exit → Act → World → Prop} (hgd : o.guard = none) (s x : Operand) (t : TypeId)
  (ho : o.op = .call { callee := .builtin .append,args := #[s,x],argTypes := #[t,t] })
  (base : Nat) (e : TypeId) (i : TypeInfo) (z : Value) (size bytes : Nat) (ht : P.underlying t = some (.slice e)) (hi : P.info? e = some i) (hz : i.zero = some z)
  (hsize : i.size = size) (hby : i.bytes = bytes) (hzs : z.cells.size = size) (hsz : 0 < size)
  (v : Value) (n : Nat) (xs : List Value) (hs : a.eval s = v) (hown : w.ownsRow base e size v n xs)
  (ad : Addr) (m c : Nat) (news : List Value) (hx : a.eval x = .slice (some ad) m c) (hl : news.length = m * size) (hnews : ∀ j u,news[j]? = some u -> w.cell? (ad.add j) = some u) (h1 : ∀ u ∈ news,u.oneCell' = true)
  (h63 : n + m <= maxLen) (hbytes : (n + m) * bytes <= 140737488355328) (hbase : base <= w.heap.size) (hm0 : 0 < m)
  (h : ∀ v' w', w'.ownsRow base e size v' (n + m) (xs ++ news) -> w.grownBy w' v.ownBlock -> (v'.ownBlock = v.ownBlock \/ v'.ownBlock = some w.heap.size) -> wpList P ops Q rest (a.put o.dst v') w') :
  wpList P ops Q (o :: rest) a w := by
 refine wpList_plain hgd fun K hK => ?_
 obtain ⟨v', w', hr,h2,h3,_⟩ := run_append_own (P := P) w base t o.type e i z size bytes ht hi hz hsize hby hzs hsz v n xs hown ad m c news hl hnews h1 h63 hbytes hbase
 have h4 := append_where w base t o.type e i z size bytes ht hi hz hsize hby v n xs hown ad m c news hl hnews h1 h63 hbytes hm0 hr
 unfold Oper.wp execOp
 simp only [ho,resolve,invoke,builtin,Sem.run_bind,Sem.run_pure,Result.andThen_ok,List.map_toArray,List.map_cons,List.map_nil,hs,hx,hr]
 exact hK _ _ (h v' w' h2 h3 h4)

theorem own_shape {w : World} {base : Nat} {e : TypeId} {size n : Nat} {v : Value} {xs : List Value} (h : w.ownsRow base e size v n xs) : ∃ a cap, v = .slice a n cap := by
 rcases h.2 with ⟨rfl,rfl⟩ | ⟨g,cap,cur,rfl,_⟩
 ·exact ⟨_,_,rfl⟩
 ·exact ⟨_,_,rfl⟩

theorem own_base {w : World} {base base' : Nat} {e : TypeId} {size n : Nat} {v : Value} {xs : List Value} (h : w.ownsRow base e size v n xs) (hb : base' ≤ base) : w.ownsRow base' e size v n xs := by
 refine ⟨h.1,?_⟩
 rcases h.2 with h2 | ⟨g,cap,cur,hv,hg,r⟩
 ·exact .inl h2
 ·exact .inr ⟨g,cap,cur,hv,Nat.le_trans hb hg,r⟩
theorem own_rebase {w : World} {base base' : Nat} {e : TypeId} {size n : Nat} {v : Value} {xs : List Value} (h : w.ownsRow base e size v n xs) (hb : ∀ g, v.ownBlock = some g → base' ≤ g) : w.ownsRow base' e size v n xs := by
 refine ⟨h.1,?_⟩
 rcases h.2 with h2 | ⟨g,cap,cur,hv,hg,r⟩
 ·exact .inl h2
 ·exact .inr ⟨g,cap,cur,hv,hb g (by rw [hv]; rfl),r⟩
theorem own_below {w w' : World} {base : Nat} {e : TypeId} {size n : Nat} {v : Value} {xs : List Value} (h : w.ownsRow base e size v n xs) (hb : Below w.heap.size w w') : w'.ownsRow base e size v n xs :=
 h.kept (row := none) ⟨hb.os,hb.tape,hb.output,hb.size,fun k hk _ => hb.block k hk⟩ (by cases v.ownBlock <;> simp)

/-! ### frames by colour: every block bears a colour; a call may turn blocks of the colours C alone, and what it makes bears one of these -/
structure Fr (x x' : Nat → Nat) (C : Nat → Prop) (w w' : World) : Prop where
 os : w'.os = w.os
 tape : w'.tape = w.tape
 output : w'.output = w.output
 size : w.heap.size <= w'.heap.size
 col : ∀ b,b < w.heap.size -> x' b = x b
 new : ∀ b,w.heap.size <= b -> b < w'.heap.size -> C (x' b)
 old : ∀ b,b < w.heap.size -> ¬ C (x b) -> w'.heap[b]? = w.heap[b]?

theorem Fr.refl (x : Nat → Nat) (C : Nat → Prop) (w : World) : Fr x x C w w := ⟨rfl, rfl, rfl, Nat.le_refl _, fun _ _ => rfl, fun b h1 h2 => by omega, fun _ _ _ => rfl⟩
theorem Fr.trans {x x' x'' : Nat → Nat} {C : Nat → Prop} {w w' w'' : World} (h : Fr x x' C w w') (k : Fr x' x'' C w' w'') : Fr x x'' C w w'' := by
 refine ⟨k.os.trans h.os,k.tape.trans h.tape,k.output.trans h.output,Nat.le_trans h.size k.size,fun b hb => (k.col b (Nat.lt_of_lt_of_le hb h.size)).trans (h.col b hb),fun b h1 h2 => ?_,fun b hb hC => ?_⟩
 ·rcases Nat.lt_or_ge b w'.heap.size with hlt | hge
  ·rw [k.col b hlt]; exact h.new b h1 hlt
  ·exact k.new b hge h2
 ·rw [k.old b (Nat.lt_of_lt_of_le hb h.size) (by rw [h.col b hb]; exact hC)]
  exact h.old b hb hC
theorem Fr.mono {x x' : Nat → Nat} {C D : Nat → Prop} {w w' : World} (h : Fr x x' C w w') (hD : ∀ c, C c → D c) : Fr x x' D w w' :=
 ⟨h.os,h.tape,h.output,h.size,h.col,fun b h1 h2 => hD _ (h.new b h1 h2),fun b hb hC => h.old b hb (fun hc => hC (hD _ hc))⟩
def paint (x : Nat → Nat) (n c : Nat) : Nat → Nat := fun b => if b < n then x b else c
theorem paint_old {x : Nat → Nat} {n c b : Nat} (h : b < n) : paint x n c b = x b := if_pos h
theorem paint_new {x : Nat → Nat} {n c b : Nat} (h : n ≤ b) : paint x n c b = c := if_neg (by omega)
theorem Fr.of_below {x : Nat → Nat} {C : Nat → Prop} {w w' : World} (h : Below w.heap.size w w') {c : Nat} (hc : C c) : Fr x (paint x w.heap.size c) C w w' :=
 ⟨h.os,h.tape,h.output,h.size,fun _ hb => paint_old hb,fun b h1 _ => by rw [paint_new h1]; exact hc,fun b hb _ => h.block b hb⟩
theorem Fr.same {x : Nat → Nat} {C : Nat → Prop} {w w' : World} (h1 : w'.os = w.os) (h2 : w'.tape = w.tape) (h3 : w'.output = w.output) (h4 : w'.heap.size = w.heap.size) (h5 : ∀ b, b < w.heap.size → ¬ C (x b) → w'.heap[b]? = w.heap[b]?) : Fr x x C w w' :=
 ⟨h1,h2,h3,by omega,fun _ _ => rfl,fun b a1 a2 => by omega,h5⟩
theorem Fr.of_steps {x : Nat → Nat} {C : Nat → Prop} {w w' : World} (h1 : w'.os = w.os) (h2 : w'.tape = w.tape) (h3 : w'.output = w.output) (h4 : w.heap.size ≤ w'.heap.size) {c : Nat} (hc : C c) (h5 : ∀ b, b < w.heap.size → ¬ C (x b) → w'.heap[b]? = w.heap[b]?) : Fr x (paint x w.heap.size c) C w w' :=
 ⟨h1,h2,h3,h4,fun _ hb => paint_old hb,fun b a1 _ => by rw [paint_new a1]; exact hc,h5⟩

structure Keeps (w w' : World) (S : Nat → Prop) : Prop where
 os : w'.os = w.os
 tape : w'.tape = w.tape
 output : w'.output = w.output
 size : w.heap.size <= w'.heap.size
 block : ∀ b,b < w.heap.size -> ¬ S b -> w'.heap[b]? = w.heap[b]?
theorem Keeps.refl (w : World) (S : Nat → Prop) : Keeps w w S := ⟨rfl, rfl, rfl, Nat.le_refl _, fun _ _ _ => rfl⟩
theorem Keeps.alloc {w w' : World} {S : Nat → Prop} (h : Keeps w w' S) (o : Obj) : Keeps w (w'.alloc o) S :=
 ⟨h.os,h.tape,h.output,Nat.le_trans h.size (by simp),fun b hb hS => (Below.heap_alloc w' o b (Nat.lt_of_lt_of_le hb h.size)).trans (h.block b hb hS)⟩
theorem Keeps.drew {w w' : World} {S : Nat → Prop} (h : Keeps w w' S) : Keeps w w'.drew S := ⟨h.os, h.tape, h.output, h.size, h.block⟩
theorem Keeps.drewN {w w' : World} {S : Nat → Prop} (h : Keeps w w' S) (n : Nat) : Keeps w (w'.drewN n) S := ⟨h.os, h.tape, h.output, h.size, h.block⟩
theorem Keeps.setCell {w w' : World} {S : Nat → Prop} (h : Keeps w w' S) {p : Addr} (hp : S p.block ∨ w.heap.size ≤ p.block) (u : Value) : Keeps w (w'.setCell p u) S :=
 ⟨h.os,h.tape,h.output,by simpa [World.setCell] using h.size,fun b hb hS => (Below.heap_setCell w' p u b (by
  rintro rfl
  rcases hp with hp | hp
  ·exact hS hp
  ·omega)).trans (h.block b hb hS)⟩
theorem Keeps.grown {w w' w'' : World} {S : Nat → Prop} {row : Option Nat} (h : Keeps w w' S) (hg : w'.grownBy w'' row) (hr : ∀ k, row = some k → S k ∨ w.heap.size ≤ k) : Keeps w w'' S :=
 ⟨hg.os.trans h.os,hg.tape.trans h.tape,hg.output.trans h.output,Nat.le_trans h.size hg.size,fun b hb hS => (hg.block b (Nat.lt_of_lt_of_le hb h.size) (fun e => by
  rcases hr b e.symm with h1 | h1
  ·exact hS h1
  ·omega)).trans (h.block b hb hS)⟩
theorem Keeps.fr {x : Nat → Nat} {C : Nat → Prop} {w w' : World} {S : Nat → Prop} (h : Keeps w w' S) {c : Nat} (hc : C c) (hS : ∀ b, b < w.heap.size → S b → C (x b)) : Fr x (paint x w.heap.size c) C w w' :=
 Fr.of_steps h.os h.tape h.output h.size hc (fun b hb hC => h.block b hb (fun hs => hC (hS b hb hs)))

/-! ### many cells written -/
end Go.Proofs.YtflnpcgnenhogaaGreatDoor.own
