/- Own lemmas, laid together. -/
import Derived.Test.YtflnpcgnenhogaaDoorLe5
import Derived.Sort.WalkA
import Derived.Test.YtflnpcgnenhogaaDoorProg
import Derived.Sort.Walk7
import Derived.Test.YtflnpcgnenhogaaDoorShelf
import Derived.Sort.WalkD2
import Derived.Sort.Walk11
import Derived.Sort.WalkB12
import Derived.Sort.WalkB2
import Derived.Sort.WalkB3
import Derived.Sort.Walk13
import Derived.Sort.WalkC
import Derived.Sort.WalkC4
import Derived.Sort.WalkA6
import Derived.Sort.WalkA14
import Derived.Sort.AssemblyPlain
import Derived.Laws.OwnMore
import Derived.Lib.Hide
import Derived.Deep.RegionLaw
namespace Go.Proofs.YtflnpcgnenhogaaDoor.ls
open Go.RowKit Go.Proofs.YtflnpcgnenhogaaDoor.own Go.Proofs.YtflnpcgnenhogaaDoor.bit

/-- a list that is only read stays where blocks of its colour are not turned -/
theorem LV.fr {x x' : Nat → Nat} {C : Nat → Prop} {w w' : World} {a : Option Addr} {l : List Nat} (h : LV w a l) (f : Fr x x' C w w') (hc : ∀ g o, a = some ⟨g, o, none⟩ → ¬ C (x g)) : LV w' a l :=
  ⟨h.1, fun i hi => by
    obtain ⟨g, o, h1, h2, h3, h4⟩ := h.2 i hi
    exact ⟨g, o, h1, Nat.lt_of_lt_of_le h2 f.size, (World.cell?_of_block (f.old g h2 (hc g o h1))).trans h3, h4⟩⟩
/-- some block of the rows grew, or a new one was made -/
theorem RE.grown {x : Nat → Nat} {d t u : Nat} (hdu : d ≠ u) {w W W2 : World} {rb a : Nat} {s : ByteArray} {ks ks' : List (Nat × Obj)} {row : Option Nat} (h : RE x d t u w rb s a ks W) (hg : W.grownBy W2 row) (hrow : ∀ g, row = some g → ∃ o, (g, o) ∈ ks)
    (hk' : ∀ p ∈ ks', (p ∈ ks ∧ some p.1 ≠ row) ∨ ((some p.1 = row ∨ W.heap.size ≤ p.1) ∧ W2.heap[p.1]? = some p.2)) : RE x d t u w rb s a ks' W2 := by
  obtain ⟨x', hf, ⟨hr1, hr2, hr3⟩, hk⟩ := h
  have hcol : ∀ g, row = some g → x' g = u ∧ g < W.heap.size := fun g e => by
    obtain ⟨o, ho⟩ := hrow g e
    have := hk _ ho
    exact ⟨this.1, lt_of_block this.2⟩
  have f2 : Fr x' (paint x' W.heap.size u) (fun e => e = u) W W2 := Fr.of_steps hg.os hg.tape hg.output hg.size rfl (fun b hb hu => hg.block b hb (fun e => hu (hcol b e.symm).1))
  have keep : ∀ b, b < W.heap.size → some b ≠ row → W2.heap[b]? = W.heap[b]? := fun b hb hne => hg.block b hb hne
  refine ⟨_, hf.trans (f2.mono (fun c hc => .inr (.inr hc))), ⟨(keep _ (lt_of_block hr1) (fun e => hdu (hr2.symm.trans (hcol _ e.symm).1))).trans hr1, (paint_old (lt_of_block hr1)).trans hr2, hr3⟩, fun p hp => ?_⟩
  rcases hk' p hp with ⟨h1, h2⟩ | ⟨h1, h2⟩
  · obtain ⟨h3, h4⟩ := hk p h1
    exact ⟨(paint_old (lt_of_block h4)).trans h3, (keep _ (lt_of_block h4) h2).trans h4⟩
  · refine ⟨?_, h2⟩
    rcases h1 with h1 | h1
    · have := hcol _ h1.symm
      exact (paint_old this.2).trans this.1
    · exact paint_new h1
theorem own_same {W W' : World} {base : Nat} {T : TypeId} {v : Value} {n : Nat} {xs : List Value} (h : W.ownsRow base T 1 v n xs) (hs : ∀ g, v.ownBlock = some g → W'.heap[g]? = W.heap[g]?) : W'.ownsRow base T 1 v n xs := by
  refine ⟨h.1, ?_⟩
  rcases h.2 with h2 | ⟨g, cap, cur, hv, hb, hg, r⟩
  · exact .inl h2
  · exact .inr ⟨g, cap, cur, hv, hb, (hs g (by rw [hv]; rfl)).trans hg, r⟩
theorem own_block {W : World} {base : Nat} {T : TypeId} {v : Value} {n : Nat} {xs : List Value} (h : W.ownsRow base T 1 v n xs) {g : Nat} (hv : v.ownBlock = some g) : ∃ o, W.heap[g]? = some o := by
  rcases h.2 with ⟨rfl, _⟩ | ⟨g', cap, cur, rfl, _, hg, _⟩
  · cases hv
  · cases hv
    exact ⟨_, hg⟩
/-- a taker, a list of its call's own, rows beside -/
def TR (x : Nat → Nat) (d t u : Nat) (w : World) (rb qb : Nat) (s : ByteArray) (a : Nat) (bad : Bool) (ks : List (Nat × Obj)) (l : List Nat) (v : Value) (W : World) : Prop :=
  W.ownsRow 0 60 1 v l.length (u32V l) ∧ ∃ ks', (∀ g, v.ownBlock = some g → ∃ o, (g, o) ∈ ks') ∧ (∀ p ∈ ks', some p.1 = v.ownBlock) ∧ (∀ p ∈ ks, some p.1 ≠ v.ownBlock) ∧ TK x d t u w rb qb s a bad (ks' ++ ks) W
section
variable {x : Nat → Nat} {d t u : Nat} {w W : World} {rb qb a : Nat} {s : ByteArray} {bad : Bool} {ks : List (Nat × Obj)} {l : List Nat} {v : Value}
theorem TK.next (h : TK x d t u w rb qb s a bad ks W) {W' : World} (k : Below W.heap.size W W') : TK x d t u w rb qb s a bad ks W' := ⟨h.1.next k, h.2⟩
theorem TR.nil (h : TK x d t u w rb qb s a bad ks W) : TR x d t u w rb qb s a bad ks [] (.slice none 0 0) W :=
  ⟨World.ownsRow_nil _ _ _ _, [], fun _ hg => (by cases hg), fun _ hp => (by cases hp), fun _ _ e => (by cases e), h⟩
theorem TR.next (h : TR x d t u w rb qb s a bad ks l v W) {W' : World} (k : Below W.heap.size W W') : TR x d t u w rb qb s a bad ks l v W' := by
  obtain ⟨h1, ks', h2, h3, h4, h5⟩ := h
  exact ⟨own_below h1 k, ks', h2, h3, h4, h5.next k⟩
theorem TR.drewN (h : TR x d t u w rb qb s a bad ks l v W) (n : Nat) : TR x d t u w rb qb s a bad ks l v (W.drewN n) := h.next ⟨rfl, rfl, rfl, Nat.le_refl _, fun _ _ => rfl⟩
theorem TR.drew (h : TR x d t u w rb qb s a bad ks l v W) : TR x d t u w rb qb s a bad ks l v W.drew := h.next (Below.drew (Below.refl _ _))
theorem TR.base (h : TR x d t u w rb qb s a bad ks l v W) : TK x d t u w rb qb s a bad ks W := by
  obtain ⟨h1, ks', h2, h3, h4, h5, h6⟩ := h
  refine ⟨h5.sub (fun p hp => ?_), fun p hp => h6 p (List.mem_append_right _ hp)⟩
  rcases List.mem_cons.1 hp with rfl | hp
  · exact List.mem_cons_self ..
  · exact List.mem_cons_of_mem _ (List.mem_append_right _ hp)
theorem TR.re (h : TR x d t u w rb qb s a bad ks l v W) : RE x d t u w rb s a ks W := h.base.1.sub (fun _ hp => List.mem_cons_of_mem _ hp)
theorem TR.le (h : TR x d t u w rb qb s a bad ks l v W) : a ≤ 8 * s.size := h.re.le
/-- what stands about the taker's cells -/
theorem TR.cells (h : TR x d t u w rb qb s a bad ks l v W) : W.cell? ⟨qb, 0, none⟩ = some (.pointer (some ⟨rb, 0, none⟩)) ∧ W.cell? ⟨qb, 1, none⟩ = some (.bool bad) ∧ ∀ j, W.frozen? ⟨qb, j, none⟩ = false := by
  have r := h.base.1.row (List.mem_cons_self ..)
  exact ⟨by rw [cell_of_row _ _ _ _ _ _ r]; rfl, by rw [cell_of_row _ _ _ _ _ _ r]; rfl, fun j => frozen_of_row W _ j _ _ r⟩
theorem TR.mark (hdu : d ≠ u) (h : TR x d t u w rb qb s a bad ks l v W) (b : Bool) : TR x d t u w rb qb s a b ks l v (W.setCell ⟨qb, 1, none⟩ (.bool b)) := by
  obtain ⟨h1, ks', h2, h3, h4, h5, h6⟩ := h
  have hne : ∀ g, v.ownBlock = some g → g ≠ qb := fun g hg => by
    obtain ⟨o, ho⟩ := h2 g hg
    exact h6 _ (List.mem_append_left _ ho)
  exact ⟨own_same h1 (fun g hg => Below.heap_setCell W ⟨qb, 1, none⟩ _ g (hne g hg)), ks', h2, h3, h4, h5.mark hdu h6 _, h6⟩
theorem TR.take (hdt : d ≠ t) (hdu : d ≠ u) (htu : t ≠ u) (c : Cd) (hc : c.ok) (most : Nat) (hm : most ≤ 1000000) (h : TR x d t u w rb qb s a bad ks l v W) :
    Calls Tryd.prog 95 #[.pointer (some ⟨qb, 0, none⟩), cdV c, .int .i64 (most : Int)] W fun e w' =>
      ∃ z a' : Nat, ∃ bad' : Bool, e = .returned (.int .i64 (z : Int)) ∧ TakeP (tk (unpack (nats s)) c most a) bad z a' bad' ∧ TR x d t u w rb qb s a' bad' ks l v w' := by
  obtain ⟨h1, ks', h2, h3, h4, h5⟩ := h
  refine (take_any x d t u hdt hdu htu c hc w rb qb s a most hm bad _ W h5).mono ?_
  rintro e w' ⟨z, a', bad', rfl, hp, h6⟩
  refine ⟨z, a', bad', rfl, hp, own_same h1 (fun g hg => ?_), ks', h2, h3, h4, h6⟩
  obtain ⟨o, ho⟩ := h2 g hg
  have e1 := h5.1.row (b := g) (o := o) (List.mem_cons_of_mem _ (List.mem_append_left _ ho))
  have e2 := h6.1.row (b := g) (o := o) (List.mem_cons_of_mem _ (List.mem_append_left _ ho))
  rw [e1, e2]
theorem TR.set (hdu : d ≠ u) (h : TR x d t u w rb qb s a bad ks l v W) {W2 : World} {v' : Value} (l2 : List Nat) (own : W2.ownsRow 0 60 1 v' l2.length (u32V l2)) (hg : W.grownBy W2 v.ownBlock)
    (hw : v'.ownBlock = v.ownBlock ∨ v'.ownBlock = some W.heap.size) : TR x d t u w rb qb s a bad ks l2 v' W2 := by
  obtain ⟨h1, ks', h2, h3, h4, h5, h6⟩ := h
  have hlt : ∀ p ∈ ks, p.1 < W.heap.size := fun p hp => lt_of_block (h5.row (b := p.1) (o := p.2) (List.mem_cons_of_mem _ (List.mem_append_right _ hp)))
  have hq := lt_of_block (h5.row (List.mem_cons_self ..))
  have hqv : some qb ≠ v.ownBlock := fun e => by
    obtain ⟨o, ho⟩ := h2 qb e.symm
    exact h6 _ (List.mem_append_left _ ho) rfl
  have hnew : ∀ b, b < W.heap.size → some b ≠ v.ownBlock → some b ≠ v'.ownBlock := fun b hb hne e => by
    rcases hw with h | h
    · exact hne (e.trans h)
    · rw [h] at e
      injection e with e
      omega
  obtain ⟨ks2, hk1, hk2, hk3⟩ : ∃ ks2 : List (Nat × Obj), (∀ g, v'.ownBlock = some g → ∃ o, (g, o) ∈ ks2) ∧ (∀ p ∈ ks2, some p.1 = v'.ownBlock) ∧ ∀ p ∈ ks2, W2.heap[p.1]? = some p.2 := by
    rcases hv : v'.ownBlock with _ | g
    · exact ⟨[], fun _ hg => (by cases hg), fun _ hp => (by cases hp), fun _ hp => (by cases hp)⟩
    · obtain ⟨o, ho⟩ := own_block own hv
      refine ⟨[(g, o)], fun g' hg' => ⟨o, by cases hg'; exact List.mem_cons_self ..⟩, fun p hp => ?_, fun p hp => ?_⟩
      · rw [List.mem_singleton.1 hp]
      · rw [List.mem_singleton.1 hp]; exact ho
  refine ⟨own, ks2, hk1, hk2, fun p hp => hnew _ (hlt p hp) (h4 p hp), h5.grown hdu hg (fun g e => ?_) (fun p hp => ?_), fun p hp => ?_⟩
  · obtain ⟨o, ho⟩ := h2 g e
    exact ⟨o, List.mem_cons_of_mem _ (List.mem_append_left _ ho)⟩
  · rcases List.mem_cons.1 hp with rfl | hp
    · exact .inl ⟨List.mem_cons_self .., hqv⟩
    · rcases List.mem_append.1 hp with hp | hp
      · refine .inr ⟨?_, hk3 p hp⟩
        rcases hw with h | h
        · exact .inl ((hk2 p hp).trans h)
        · refine .inr ?_
          have := (hk2 p hp).trans h
          injection this with this
          omega
      · exact .inl ⟨List.mem_cons_of_mem _ (List.mem_append_right _ hp), h4 p hp⟩
  · rcases List.mem_append.1 hp with hp | hp
    · intro e
      exact hnew qb hq hqv (e ▸ hk2 p hp)
    · exact h6 p (List.mem_append_right _ hp)
theorem TR.add (hdu : d ≠ u) (h : TR x d t u w rb qb s a bad ks l v W) {W2 : World} {v' : Value} (l2 : List Nat) (m : Nat) (hm : l2.length = m) (own : W2.ownsRow 0 60 1 v' (l.length + m) (u32V l ++ u32V l2)) (hg : W.grownBy W2 v.ownBlock)
    (hw : v'.ownBlock = v.ownBlock ∨ v'.ownBlock = some W.heap.size) : TR x d t u w rb qb s a bad ks (l ++ l2) v' W2 :=
  h.set hdu (l ++ l2) (by rw [List.length_append, hm, u32V_append]; exact own) hg hw
end
/-- append of a list that is only read, empty or not -/
theorem wpList_append_lv {P : Program} (w : World) {ops : Array Oper} {rest : List Oper} {o : Oper} {a : Act} {Q : Exit → Act → World → Prop} (hgd : o.guard = none) (s x : Operand) (t : TypeId)
    (ho : o.op = .call { callee := .builtin .append, args := #[s, x], argTypes := #[t, t] })
    (base : Nat) (e : TypeId) (i : TypeInfo) (z : Value) (bytes : Nat) (ht : P.underlying t = some (.slice e)) (hi : P.info? e = some i) (hz : i.zero = some z)
    (hsize : i.size = 1) (hby : i.bytes = bytes) (hzs : z.cells.size = 1)
    (v : Value) (n : Nat) (xs : List Value) (hs : a.eval s = v) (hown : w.ownsRow base e 1 v n xs) (ao : Option Addr) (m c : Nat) (l : List Nat) (hx : a.eval x = .slice ao m c) (hm : l.length = m) (hLV : LV w ao l)
    (h63 : n + m ≤ maxLen) (hbytes : (n + m) * bytes ≤ 140737488355328) (hbase : base ≤ w.heap.size)
    (h : ∀ v' w', w'.ownsRow base e 1 v' (n + m) (xs ++ u32V l) → w.grownBy w' v.ownBlock → (v'.ownBlock = v.ownBlock ∨ v'.ownBlock = some w.heap.size) → wpList P ops Q rest (a.put o.dst v') w') :
    wpList P ops Q (o :: rest) a w := by
  by_cases h0 : 0 < m
  · obtain ⟨g, of, rfl⟩ := hLV.addr (by omega)
    have hc := hLV.cells m
    rw [List.take_of_length_le (by omega)] at hc
    exact wpList_append_at w hgd s x t ho base e i z 1 bytes ht hi hz hsize hby hzs (by decide) v n xs hs hown ⟨g, of, none⟩ m c (u32V l) hx (by rw [u32V, List.length_map, hm, Nat.mul_one]) hc (u32_one l) h63 hbytes hbase h0 h
  · obtain rfl : m = 0 := by omega
    obtain rfl : l = [] := List.eq_nil_of_length_eq_zero hm
    obtain ⟨av, cv, hv, hle⟩ := own_slice hown
    have hsrc : Src P i.size t (.slice ao 0 c) 0 [] w := by
      cases ao with
      | none => exact Src.ofNil w ht c
      | some ad => exact Src.ofSlice w ht _ 0 c [] (by simp) (fun j u hu => by simp at hu) (fun u hu => by cases hu)
    refine wpList_plain hgd fun K hK => ?_
    have hr := run_append_nothing (P := P) w t t o.type e i ht hi av n cv hle (.slice ao 0 c) hsrc
    unfold Oper.wp execOp
    subst hv
    simp only [ho, resolve, invoke, builtin, Sem.run_bind, Sem.run_pure, Result.andThen_ok, List.map_toArray, List.map_cons, List.map_nil, hs, hx, hr]
    refine hK _ _ (h _ _ ?_ ⟨rfl, rfl, rfl, Nat.le_refl _, fun _ _ _ => rfl⟩ (.inl rfl))
    show w.ownsRow base e 1 _ (n + 0) (xs ++ [])
    rw [List.append_nil]
    exact hown
end Go.Proofs.YtflnpcgnenhogaaDoor.ls
namespace Go.Proofs.YtflnpcgnenhogaaDoor.ls
open Go.RowKit Go.Proofs.YtflnpcgnenhogaaDoor.own Go.Proofs.YtflnpcgnenhogaaDoor.bit

/-- colours of what is only read -/
def Apt (x : Nat → Nat) (d t u : Nat) (a : Option Addr) (l : List Nat) : Prop := ∀ g o, a = some ⟨g, o, none⟩ → 0 < l.length → ¬ (x g = d ∨ x g = t ∨ x g = u)
theorem Apt.drop {x : Nat → Nat} {d t u g o : Nat} {l : List Nat} (h : Apt x d t u (some ⟨g, o, none⟩) l) (k : Nat) (n : Nat) : Apt x d t u (some ⟨g, k, none⟩) (l.drop n) := fun g' o' e hl => by
  injection e with e
  injection e with e1 e2
  subst e1
  exact h g o rfl (by rw [List.length_drop] at hl; omega)
theorem Apt.nil {x : Nat → Nat} {d t u : Nat} {a : Option Addr} : Apt x d t u a [] := fun g o e hl => by simp at hl
theorem LV.nil {w : World} {a : Option Addr} : LV w a [] := ⟨Nat.zero_le _, fun i h => by cases h⟩
theorem LV.take {w : World} {a : Option Addr} {l : List Nat} (h : LV w a l) (k : Nat) : LV w a (l.take k) := by
  refine ⟨by rw [List.length_take]; have := h.1; omega, fun i hi => ?_⟩
  rw [List.length_take] at hi
  obtain ⟨g, o, h1, h2, h3, h4⟩ := h.2 i (by omega)
  exact ⟨g, o, h1, h2, by rw [List.getElem_take]; exact h3, by rw [List.getElem_take]; exact h4⟩
def GlC (x : Nat → Nat) (d t u : Nat) : Prop := x 0 ≠ d ∧ x 0 ≠ t ∧ x 0 ≠ u ∧ x 1 ≠ d ∧ x 1 ≠ t ∧ x 1 ≠ u
theorem RE.gl {x : Nat → Nat} {d t u : Nat} {w W : World} {rb a : Nat} {s : ByteArray} {ks : List (Nat × Obj)} (h : RE x d t u w rb s a ks W) (hG : GL w) (hgl : GlC x d t u) : GL W := by
  obtain ⟨x', hf, _⟩ := h
  have k0 := hf.old 0 (World.block_lt_of_cell? _ _ hG.g0) (by rintro (e | e | e); exact hgl.1 e; exact hgl.2.1 e; exact hgl.2.2.1 e)
  have k1 := hf.old 1 (World.block_lt_of_cell? _ _ hG.u0) (by rintro (e | e | e); exact hgl.2.2.2.1 e; exact hgl.2.2.2.2.1 e; exact hgl.2.2.2.2.2 e)
  exact ⟨(World.cell?_of_block (w := w) k0).trans hG.g0, (World.cell?_of_block (w := w) k0).trans hG.g1, (World.cell?_of_block (w := w) k1).trans hG.u0, (World.cell?_of_block (w := w) k1).trans hG.u1⟩
theorem RE.lv {x : Nat → Nat} {d t u : Nat} {w W : World} {rb a : Nat} {s : ByteArray} {ks : List (Nat × Obj)} (h : RE x d t u w rb s a ks W) {ar : Option Addr} {l : List Nat} (hA : LV w ar l) (hc : Apt x d t u ar l) : LV W ar l := by
  obtain ⟨x', hf, _⟩ := h
  rcases Nat.eq_zero_or_pos l.length with h0 | h0
  · obtain rfl := List.eq_nil_of_length_eq_zero h0
    exact LV.nil
  · exact hA.fr hf (fun g o e => hc g o e h0)
theorem LV.cut {w : World} {ad : Addr} {l : List Nat} (h : LV w (some ad) l) {cap k : Nat} (hc : l.length ≤ cap) (hk : k ≤ l.length) : LV w (if cap = k then some ad else some (ad.add k)) (l.drop k) := by
  rcases Nat.eq_or_lt_of_le hk with e | e
  · rw [List.drop_eq_nil_of_le (by omega)]
    exact LV.nil
  · obtain ⟨g, o, e2⟩ := h.addr (by omega)
    injection e2 with e2
    subst e2
    rw [if_neg (by omega), Addr.add_lit]
    exact h.drop k
theorem Apt.cut {x : Nat → Nat} {d t u : Nat} {w : World} {ad : Addr} {l : List Nat} (h : Apt x d t u (some ad) l) (hl : LV w (some ad) l) {cap k : Nat} (hc : l.length ≤ cap) (hk : k ≤ l.length) : Apt x d t u (if cap = k then some ad else some (ad.add k)) (l.drop k) := by
  rcases Nat.eq_or_lt_of_le hk with e | e
  · rw [List.drop_eq_nil_of_le (by omega)]
    exact Apt.nil
  · obtain ⟨g, o, e2⟩ := hl.addr (by omega)
    injection e2 with e2
    subst e2
    rw [if_neg (by omega), Addr.add_lit]
    exact h.drop _ k
/-- what a call answers that takes a list -/
def ListE (P : List Nat → Nat → Bool → Prop) (x : Nat → Nat) (d t u : Nat) (w : World) (rb qb : Nat) (s : ByteArray) (ks : List (Nat × Obj)) (e : Ending) (w' : World) : Prop :=
  ∃ (v : Value) (l : List Nat) (a' : Nat) (bad : Bool), e = .returned v ∧ P l a' bad ∧ TR x d t u w rb qb s a' bad ks l v w'
end Go.Proofs.YtflnpcgnenhogaaDoor.ls
namespace Go.Proofs.YtflnpcgnenhogaaDoor.ls
open Go.RowKit Go.Proofs.YtflnpcgnenhogaaDoor.own Go.Proofs.YtflnpcgnenhogaaDoor.bit

theorem TakeP.le {B : Bits} {c : Cd} {most a : Nat} {bad bad' : Bool} {v a' : Nat} (h : TakeP (tk B c most a) bad v a' bad') : v ≤ most := by
  unfold TakeP at h
  cases hr : tk B c most a with
  | none => rw [hr] at h; have := h.1; omega
  | some q =>
    rw [hr] at h
    have h1 := h.1
    unfold tk at hr
    cases hr2 : rd c (B.drop a) with
    | none => rw [hr2] at hr; cases hr
    | some q2 =>
      rw [hr2] at hr
      simp only [Option.bind_some] at hr
      split at hr
      · injection hr with hr
        subst hr
        omega
      · cases hr
end Go.Proofs.YtflnpcgnenhogaaDoor.ls
namespace Go.Proofs.YtflnpcgnenhogaaDoor.ls
open Go.RowKit Go.Proofs.YtflnpcgnenhogaaDoor.own Go.Proofs.YtflnpcgnenhogaaDoor.bit

theorem TK.keep {x : Nat → Nat} {d t u : Nat} {w W : World} {rb qb a : Nat} {s : ByteArray} {bad : Bool} {ks : List (Nat × Obj)} (h : TK x d t u w rb qb s a bad ks W) (row : Array Value) (T : TypeId) : TK x d t u w rb qb s a bad ((W.heap.size, .cells row T (0, 0)) :: ks) (W.alloc (.cells row T)) := by
  obtain ⟨h1, h2⟩ := h
  refine ⟨(h1.keep row T).sub (fun p hp => ?_), fun p hp => ?_⟩
  · rcases List.mem_cons.1 hp with rfl | hp
    · exact List.mem_cons_of_mem _ (List.mem_cons_self ..)
    · rcases List.mem_cons.1 hp with rfl | hp
      · exact List.mem_cons_self ..
      · exact List.mem_cons_of_mem _ (List.mem_cons_of_mem _ hp)
  · rcases List.mem_cons.1 hp with rfl | hp
    · have := lt_of_block (h1.row (List.mem_cons_self ..))
      show W.heap.size ≠ qb
      omega
    · exact h2 p hp
theorem TR.sub {x : Nat → Nat} {d t u : Nat} {w W : World} {rb qb a : Nat} {s : ByteArray} {bad : Bool} {ks ks0 : List (Nat × Obj)} {l : List Nat} {v : Value} (h : TR x d t u w rb qb s a bad ks l v W) (hs : ∀ p ∈ ks0, p ∈ ks) : TR x d t u w rb qb s a bad ks0 l v W := by
  obtain ⟨h1, ks', h2, h3, h4, h5, h6⟩ := h
  refine ⟨h1, ks', h2, h3, fun p hp => h4 p (hs p hp), h5.sub (fun p hp => ?_), fun p hp => ?_⟩
  · rcases List.mem_cons.1 hp with rfl | hp
    · exact List.mem_cons_self ..
    · rcases List.mem_append.1 hp with hp | hp
      · exact List.mem_cons_of_mem _ (List.mem_append_left _ hp)
      · exact List.mem_cons_of_mem _ (List.mem_append_right _ (hs p hp))
  · rcases List.mem_append.1 hp with hp | hp
    · exact h6 p (List.mem_append_left _ hp)
    · exact h6 p (List.mem_append_right _ (hs p hp))
theorem ListE.sub {P : List Nat → Nat → Bool → Prop} {x : Nat → Nat} {d t u : Nat} {w : World} {rb qb : Nat} {s : ByteArray} {ks ks0 : List (Nat × Obj)} {e : Ending} {w' : World} (h : ListE P x d t u w rb qb s ks e w') (hs : ∀ p ∈ ks0, p ∈ ks) : ListE P x d t u w rb qb s ks0 e w' := by
  obtain ⟨v, l, a', bad, h1, h2, h3⟩ := h
  exact ⟨v, l, a', bad, h1, h2, h3.sub hs⟩
/-- the list's own cells -/
theorem TR.cell {x : Nat → Nat} {d t u : Nat} {w W : World} {rb qb a : Nat} {s : ByteArray} {bad : Bool} {ks : List (Nat × Obj)} {l : List Nat} {v : Value} (h : TR x d t u w rb qb s a bad ks l v W) (i : Nat) (hi : i < l.length) : ∃ g cap, v = .slice (some ⟨g, 0, none⟩) l.length cap ∧ W.cell? ⟨g, i, none⟩ = some (.int .u32 (l[i] : Int)) ∧ l.length ≤ cap := by
  rcases h.1.2 with ⟨_, h0⟩ | ⟨g, cap, cur, rfl, _, _, hn, _⟩
  · omega
  · refine ⟨g, cap, rfl, ?_, hn⟩
    rw [h.1.cellAt i (by omega)]
    simp [u32V, hi]
end Go.Proofs.YtflnpcgnenhogaaDoor.ls
namespace Go.Proofs.YtflnpcgnenhogaaDoor.so
open Go.RowKit Go.Sort Go.Lib

abbrev U : Int → Value := Value.int .u32
end Go.Proofs.YtflnpcgnenhogaaDoor.so
namespace Go.Proofs.YtflnpcgnenhogaaDoor.ls
open Go.RowKit Go.Proofs.YtflnpcgnenhogaaDoor.own Go.Proofs.YtflnpcgnenhogaaDoor.bit

/-- a call that takes another list, the list so far beside -/
theorem TR.call {x : Nat → Nat} {d t u : Nat} {w W : World} {rb qb a : Nat} {s : ByteArray} {bad : Bool} {ks : List (Nat × Obj)} {l : List Nat} {v : Value} (h : TR x d t u w rb qb s a bad ks l v W) {f : Nat} {args : Array Value} {P : List Nat → Nat → Bool → Prop}
    (hc : ∀ ks1, TK x d t u w rb qb s a bad ks1 W → Calls Tryd.prog f args W (ListE P x d t u w rb qb s ks1)) :
    Calls Tryd.prog f args W fun e w' => ∃ (v2 : Value) (l2 : List Nat) (a' : Nat) (bad' : Bool), e = .returned v2 ∧ P l2 a' bad' ∧ w'.ownsRow 0 60 1 v2 l2.length (u32V l2) ∧ TR x d t u w rb qb s a' bad' ks l v w' := by
  obtain ⟨h1, ks', h2, h3, h4, h5⟩ := h
  refine (hc _ h5).mono ?_
  rintro e w' ⟨v2, l2, a', bad', rfl, hp, h6⟩
  refine ⟨v2, l2, a', bad', rfl, hp, h6.1, own_same h1 (fun g hg => ?_), ks', h2, h3, h4, h6.base⟩
  obtain ⟨o, ho⟩ := h2 g hg
  have e1 := h5.1.row (b := g) (o := o) (List.mem_cons_of_mem _ (List.mem_append_left _ ho))
  have e2 := h6.base.1.row (b := g) (o := o) (List.mem_cons_of_mem _ (List.mem_append_left _ ho))
  rw [e1, e2]
theorem srtN_length (l : List Nat) : (srtN l).length = l.length := (srtN_perm l).length_eq
/-- what a list's taking says -/
def ParP (o : Option (List Nat × List Nat × List Nat × Nat)) (deg : Nat) (l : List Nat) (a' : Nat) (bad : Bool) : Prop :=
  l.length ≤ 200000 ∧ (∀ v ∈ l, v < 65536) ∧ (bad = true → o = none) ∧ (bad = false → (∃ c l1 z, o = some (c, l1, z, a') ∧ l = srtN (c ++ l1 ++ z)) ∨ (o = none ∧ deg < l.length))
def cop0 (B : Bits) (ref : List Nat) (r a : Nat) : Option (List Nat × Nat) := if 0 < r then copies B ref a else some ([], a)
def lng0 (B : Bits) (x deg itv : Nat) (c : List Nat) (a : Nat) : Option (List Nat × Nat) := if c.length < deg ∧ 0 < itv then longs B x (deg - c.length) itv a else some ([], a)
theorem pars_eq (B : Bits) (x deg : Nat) (ref : List Nat) (r : Nat) (p : Pr) (a : Nat) : pars B x deg ref r p a = (cop0 B ref r a).bind fun c => if deg < c.1.length then none else (lng0 B x deg p.itv c.1 c.2).bind fun l => (rsd B x p.zet (deg - c.1.length - l.1.length) none l.2).map fun z => (c.1, l.1, z.1, z.2) := rfl
/-- behind what is copied -/
def S1 (O : Option (List Nat × List Nat × List Nat × Nat)) (C0 : Option (List Nat × Nat)) (m : Nat) (c : List Nat) (a1 : Nat) (bad : Bool) : Prop := c.length ≤ m ∧ (∀ v ∈ c, v < 65536) ∧ (bad = true → O = none) ∧ (bad = false → C0 = some (c, a1))
/-- behind the rows -/
def S2 (O : Option (List Nat × List Nat × List Nat × Nat)) (C0 : Option (List Nat × Nat)) (L0 : List Nat → Nat → Option (List Nat × Nat)) (deg : Nat) (l : List Nat) (a2 : Nat) (bad : Bool) : Prop := l.length ≤ 131072 ∧ (∀ v ∈ l, v < 65536) ∧ (bad = true → O = none) ∧
  (bad = false → ∃ c l1 a1, C0 = some (c, a1) ∧ L0 c a1 = some (l1, a2) ∧ l = c ++ l1 ∧ (deg ≤ c.length → l1 = []) ∧ (c.length ≤ deg → c.length + l1.length ≤ deg))
def S3 (O : Option (List Nat × List Nat × List Nat × Nat)) (C0 : Option (List Nat × Nat)) (L0 : List Nat → Nat → Option (List Nat × Nat)) (Z0 : Nat → Nat → Option (List Nat × Nat)) (deg : Nat) (l : List Nat) (a3 : Nat) (bad : Bool) : Prop := l.length ≤ 200000 ∧ (∀ v ∈ l, v < 65536) ∧ (bad = true → O = none) ∧
  (bad = false → ∃ c l1 a1 a2 z, C0 = some (c, a1) ∧ L0 c a1 = some (l1, a2) ∧ l = c ++ l1 ++ z ∧ (c.length ≤ deg → Z0 (deg - c.length - l1.length) a2 = some (z, a3)))
def TS (S : List Nat → Nat → Bool → Prop) (x : Nat → Nat) (d t u : Nat) (w : World) (rb qb : Nat) (s : ByteArray) (ks : List (Nat × Obj)) (v : Value) (W : World) : Prop := ∃ l a bad, S l a bad ∧ TR x d t u w rb qb s a bad ks l v W
theorem S3.fin {B : Bits} {x deg : Nat} {ref : List Nat} {r : Nat} {p : Pr} {a : Nat} {l : List Nat} {a3 : Nat} {bad : Bool} (h : S3 (pars B x deg ref r p a) (cop0 B ref r a) (lng0 B x deg p.itv) (fun n a => rsd B x p.zet n none a) deg l a3 bad) : ParP (pars B x deg ref r p a) deg (srtN l) a3 bad := by
  obtain ⟨h1, h2, h3, h4⟩ := h
  refine ⟨by rw [srtN_length]; exact h1, fun v hv => h2 v ((srtN_perm l).subset hv), h3, fun hb => ?_⟩
  obtain ⟨c, l1, a1, a2, z, e1, e2, e3, e4⟩ := h4 hb
  rw [pars_eq, e1, Option.bind_some]
  by_cases hd : deg < c.length
  · rw [if_pos hd]
    refine .inr ⟨rfl, ?_⟩
    rw [srtN_length, e3, List.length_append, List.length_append]
    omega
  · rw [if_neg hd]
    dsimp only
    rw [e2, Option.bind_some]
    dsimp only
    have := e4 (by omega)
    dsimp only at this
    rw [this]
    exact .inl ⟨c, l1, z, rfl, by rw [e3]⟩
end Go.Proofs.YtflnpcgnenhogaaDoor.ls
namespace Go.Proofs.YtflnpcgnenhogaaDoor.ls
open Go.RowKit Go.Proofs.YtflnpcgnenhogaaDoor.own Go.Proofs.YtflnpcgnenhogaaDoor.bit

/-- there is a colour beyond all -/
theorem fresh (x : Nat → Nat) (d : Nat) : ∀ n : Nat, ∃ m, d < m ∧ ∀ b, b < n → x b < m
  | 0 => ⟨d + 1, Nat.lt_succ_self _, fun b h => (by omega)⟩
  | n + 1 => by
    obtain ⟨m, h1, h2⟩ := fresh x d n
    refine ⟨m + x n + 1, by omega, fun b hb => ?_⟩
    rcases Nat.lt_or_ge b n with h | h
    · have := h2 b h; omega
    · obtain rfl : b = n := by omega
      omega
/-- colours that are never turned on the way -/
def Rk (y : Nat → Nat) (d m b : Nat) : Prop := (y b < m ∧ y b ≠ d) ∨ y b = m + 4
def GS (x : Nat → Nat) (d m : Nat) (w : World) (rb : Nat) (s : ByteArray) (a : Nat) (wr : Option (Nat × Bits)) (rd : Option (Nat × ByteArray × Nat)) (ks : List (Nat × Obj)) (W : World) : Prop :=
  ∃ y, Fr x y (fun c => c = d ∨ m ≤ c) w W ∧ RdC y d W rb s a ∧ (∀ q, wr = some q → WrC y m W q.1 q.2) ∧ (∀ q, rd = some q → RdC y (m + 1) W q.1 q.2.1 q.2.2) ∧ ∀ p ∈ ks, Rk y d m p.1 ∧ W.heap[p.1]? = some p.2
section
variable {x : Nat → Nat} {d m : Nat} {w W : World} {rb a : Nat} {s : ByteArray} {wr : Option (Nat × Bits)} {rd : Option (Nat × ByteArray × Nat)} {ks : List (Nat × Obj)}
theorem GS.le (h : GS x d m w rb s a wr rd ks W) : a ≤ 8 * s.size := by
  obtain ⟨_, _, hr, _⟩ := h
  exact hr.2.2.1
theorem GS.row (h : GS x d m w rb s a wr rd ks W) {b : Nat} {o : Obj} (hm : (b, o) ∈ ks) : W.heap[b]? = some o := by
  obtain ⟨_, _, _, _, _, hk⟩ := h
  exact (hk _ hm).2
theorem rk_frame {y y' : Nat → Nat} {C : Nat → Prop} {W W' : World} (h : ∀ p ∈ ks, Rk y d m p.1 ∧ W.heap[p.1]? = some p.2) (f : Fr y y' C W W') (hC : ∀ c, C c → c = d ∨ c = m ∨ c = m + 1 ∨ c = m + 2 ∨ c = m + 3) (hdm : d < m) : ∀ p ∈ ks, Rk y' d m p.1 ∧ W'.heap[p.1]? = some p.2 := fun p hp => by
  obtain ⟨h1, h2⟩ := h p hp
  have e := f.col _ (lt_of_block h2)
  refine ⟨?_, (f.old _ (lt_of_block h2) (fun hc => ?_)).trans h2⟩
  · unfold Rk at h1 ⊢
    rw [e]
    exact h1
  · have := hC _ hc
    unfold Rk at h1
    omega
theorem GS.next (hdm : d < m) (h : GS x d m w rb s a wr rd ks W) {W' : World} (k : Below W.heap.size W W') : GS x d m w rb s a wr rd ks W' := by
  obtain ⟨y, hf, hr, hw, hr2, hk⟩ := h
  have f2 : Fr y (paint y W.heap.size (m + 2)) (fun e => e = m + 2) W W' := Fr.of_below k rfl
  exact ⟨_, hf.trans (f2.mono (fun c hc => by omega)), rdc_frame hr f2 (by omega), fun q e => (hw q e).frame f2 (by omega), fun q e => rdc_frame (hr2 q e) f2 (by omega), rk_frame hk f2 (fun c hc => by omega) hdm⟩
theorem GS.add (hdm : d < m) (h : GS x d m w rb s a wr rd ks W) (row : Array Value) (T : TypeId) : GS x d m w rb s a wr rd ((W.heap.size, .cells row T (0, 0)) :: ks) (W.alloc (.cells row T)) := by
  obtain ⟨y, hf, hr, hw, hr2, hk⟩ := h
  have k : Below W.heap.size W (W.alloc (.cells row T)) := (Below.refl _ _).alloc (Nat.le_refl _) _
  have f2 : Fr y (paint y W.heap.size (m + 4)) (fun e => e = m + 4) W (W.alloc (.cells row T)) := Fr.of_below k rfl
  refine ⟨_, hf.trans (f2.mono (fun c hc => by omega)), rdc_frame hr f2 (by omega), fun q e => (hw q e).frame f2 (by omega), fun q e => rdc_frame (hr2 q e) f2 (by omega), fun p hp => ?_⟩
  rcases List.mem_cons.1 hp with rfl | hp
  · exact ⟨.inr (paint_new (Nat.le_refl _)), heap_alloc_new W _⟩
  · obtain ⟨h1, h2⟩ := hk p hp
    have e : paint y W.heap.size (m + 4) p.1 = y p.1 := paint_old (lt_of_block h2)
    refine ⟨?_, (k.block _ (lt_of_block h2)).trans h2⟩
    unfold Rk at h1 ⊢
    rw [e]
    exact h1
theorem GS.gl (h : GS x d m w rb s a wr rd ks W) (hG : GL w) (h0 : x 0 ≠ d ∧ x 1 ≠ d) (hm : ∀ b, b < w.heap.size → x b < m) : GL W := by
  obtain ⟨y, hf, _⟩ := h
  have l0 := World.block_lt_of_cell? _ _ hG.g0
  have l1 := World.block_lt_of_cell? _ _ hG.u0
  have k0 := hf.old 0 l0 (by rintro (e | e); exact h0.1 e; have := hm 0 l0; omega)
  have k1 := hf.old 1 l1 (by rintro (e | e); exact h0.2 e; have := hm 1 l1; omega)
  exact ⟨(World.cell?_of_block (w := w) k0).trans hG.g0, (World.cell?_of_block (w := w) k0).trans hG.g1, (World.cell?_of_block (w := w) k1).trans hG.u0, (World.cell?_of_block (w := w) k1).trans hG.u1⟩
theorem GS.lv (h : GS x d m w rb s a wr rd ks W) (hm : ∀ b, b < w.heap.size → x b < m) {al : Option Addr} {l : List Nat} (hL : LV w al l) (hc : ∀ g o, al = some ⟨g, o, none⟩ → 0 < l.length → x g ≠ d) : LV W al l := by
  obtain ⟨y, hf, _⟩ := h
  rcases Nat.eq_zero_or_pos l.length with h0 | h0
  · obtain rfl := List.eq_nil_of_length_eq_zero h0
    exact LV.nil
  · obtain ⟨g, o, e, hlt, _⟩ := hL.2 0 h0
    refine hL.fr hf (fun g' o' e' => ?_)
    rw [e] at e'
    injection e' with e'
    injection e' with e1 e2
    subst e1
    rintro (e3 | e3)
    · exact hc g o e h0 e3
    · have := hm g hlt; omega
theorem GS.at_ (h : GS x d m w rb s a wr rd ks W) : Calls Tryd.prog 24 #[.pointer (some ⟨rb, 0, none⟩)] W fun e w' => e = .returned (.int .i64 (a : Int)) ∧ W = w' := by
  obtain ⟨y, _, hr, _⟩ := h
  exact At_any y d W rb s a hr
theorem GS.len {wb : Nat} {l : Bits} (h : GS x d m w rb s a (some (wb, l)) rd ks W) : Calls Tryd.prog 19 #[.pointer (some ⟨wb, 0, none⟩)] W fun e w' => e = .returned (.int .i64 (l.length : Int)) ∧ W = w' := by
  obtain ⟨y, _, _, hw, _⟩ := h
  exact len_any y m W wb l (hw _ rfl)
theorem GS.text {wb : Nat} {l : Bits} (h : GS x d m w rb s a (some (wb, l)) rd ks W) : Calls Tryd.prog 13 #[.pointer (some ⟨wb, 0, none⟩)] W fun e w' => e = .returned (.tuple #[.string (txt (packN l)), .int .i64 0]) ∧ W = w' := by
  obtain ⟨y, _, _, hw, _⟩ := h
  exact text_any y m W wb l (hw _ rfl)
theorem GS.new (hdm : d < m) (h : GS x d m w rb s a none none ks W) :
    Calls Tryd.prog 7 #[] W fun e w' => ∃ wb : Nat, e = .returned (.pointer (some ⟨wb, 0, none⟩)) ∧ GS x d m w rb s a (some (wb, [])) none ks w' := by
  obtain ⟨y, hf, hr, -, -, hk⟩ := h
  refine (new_any y m W).mono ?_
  rintro e w' ⟨wb, y', rfl, f2, hw, _⟩
  exact ⟨wb, rfl, y', hf.trans (f2.mono (fun c hc => by omega)), rdc_frame hr f2 (by omega), fun q e => by cases e; exact hw, fun q e => (by cases e), rk_frame hk f2 (fun c hc => by omega) hdm⟩
theorem GS.enc (hdm : d < m) {wb : Nat} (h : GS x d m w rb s a (some (wb, [])) none ks W) (hG : GL W) (p : Pr) (xv : Nat) (al : Option Addr) (succ : List Nat) (cap : Nat) (bl : Option Addr) (ref : List Nat) (capb r : Nat) (hc : succ.length ≤ cap) (hcb : ref.length ≤ capb) (hm : MayN xv succ ref r p) (hA : LV W al succ) (hB : LV W bl ref) :
    Calls Tryd.prog 11 #[.pointer (some ⟨wb, 0, none⟩), .int .i64 (xv : Int), .slice al succ.length cap, .slice bl ref.length capb, .int .i64 (r : Int), parV (p.win : Int) (p.itv : Int) (p.zet : Int)] W fun e w' =>
      e = .returned (.int .i64 0) ∧ GS x d m w rb s a (some (wb, lay xv succ ref r p)) none ks w' := by
  obtain ⟨y, hf, hr, hw, -, hk⟩ := h
  have hl := lay_len hm
  refine (lenc_yes y m (m + 2) (m + 3) (by omega) (by omega) (by omega) p xv W hG wb [] al succ cap bl ref capb r hc hcb hm hA hB (by simp only [List.length_nil]; omega) (hw _ rfl)).mono ?_
  rintro e w' ⟨rfl, y', f2, hw2⟩
  exact ⟨rfl, y', hf.trans (f2.mono (fun c hc => by omega)), rdc_frame hr f2 (by omega), fun q e => by cases e; exact hw2, fun q e => (by cases e), rk_frame hk f2 (fun c hc => by omega) hdm⟩
theorem GS.open (hdm : d < m) (h : GS x d m w rb s a wr none ks W) (t : ByteArray) (ht : t.size ≤ 1152921504606846975) :
    Calls Tryd.prog 20 #[.string t] W fun e w' => ∃ ob : Nat, e = .returned (.pointer (some ⟨ob, 0, none⟩)) ∧ GS x d m w rb s a wr (some (ob, t, 0)) ks w' := by
  obtain ⟨y, hf, hr, hw, -, hk⟩ := h
  refine (ropen_any y (m + 1) t ht W).mono ?_
  rintro e w' ⟨ob, y', rfl, f2, hr2, _⟩
  exact ⟨ob, rfl, y', hf.trans (f2.mono (fun c hc => by omega)), rdc_frame hr f2 (by omega), fun q e => (hw q e).frame f2 (by omega), fun q e => by cases e; exact hr2, rk_frame hk f2 (fun c hc => by omega) hdm⟩
theorem GS.head (hdm : d < m) {ob oa : Nat} {os : ByteArray} (h : GS x d m w rb s a wr (some (ob, os, oa)) ks W) (hG : GL w) (h0 : x 0 ≠ d ∧ x 1 ≠ d) (hm : ∀ b, b < w.heap.size → x b < m) (p : Pr) (hp : p.ok) :
    Calls Tryd.prog 21 #[.pointer (some ⟨ob, 0, none⟩), parV (p.win : Int) (p.itv : Int) (p.zet : Int)] W fun e w' =>
      e = .returned (hrV (hread p.win (unpack (nats os)) oa)) ∧ GS x d m w rb s a wr (some (ob, os, hrA oa (hread p.win (unpack (nats os)) oa))) ks w' := by
  have hGW := h.gl hG h0 hm
  obtain ⟨y, hf, hr, hw, hr2, hk⟩ := h
  have l0 := World.block_lt_of_cell? _ _ hG.g0
  have l1 := World.block_lt_of_cell? _ _ hG.u0
  have e0 : y 0 < m := by rw [hf.col 0 l0]; exact hm 0 l0
  have e1 : y 1 < m := by rw [hf.col 1 l1]; exact hm 1 l1
  refine (head_any y (m + 1) (m + 2) (m + 3) (by omega) (by omega) (by omega) p hp W hGW (by omega) ob os oa (hr2 _ rfl)).mono ?_
  rintro e w' ⟨rfl, y', f2, hr3⟩
  exact ⟨rfl, y', hf.trans (f2.mono (fun c hc => by omega)), rdc_frame hr f2 (by omega), fun q e => (hw q e).frame f2 (by omega), fun q e => by cases e; exact hr3, rk_frame hk f2 (fun c hc => by omega) hdm⟩
theorem GS.seek (hdm : d < m) (h : GS x d m w rb s a wr rd ks W) (a0 : Nat) (ha : a0 ≤ 8 * s.size) :
    Calls Tryd.prog 40 #[.pointer (some ⟨rb, 0, none⟩), .int .i64 (a0 : Int)] W fun e w' => e = .returned (.int .i64 0) ∧ GS x d m w rb s a0 wr rd ks w' := by
  obtain ⟨y, hf, hr, hw, hr2, hk⟩ := h
  refine (Seek_any y d s a a0 rb W hr ha).mono ?_
  rintro e w' ⟨rfl, f2, h2⟩
  exact ⟨rfl, y, hf.trans (f2.mono (fun c hc => by omega)), h2, fun q e => (hw q e).frame f2 (by omega), fun q e => rdc_frame (hr2 q e) f2 (by omega), rk_frame hk f2 (fun c hc => by omega) hdm⟩
theorem GS.take (hdm : d < m) (h : GS x d m w rb s a wr rd ks W) (n : Nat) (hn : n ≤ 64) (ha : a + n ≤ 8 * s.size) :
    Calls Tryd.prog 77 #[.pointer (some ⟨rb, 0, none⟩), .int .i64 (n : Int)] W fun e w' =>
      e = .returned (.tuple #[.int .u64 ((num (((unpack (nats s)).drop a).take n) : Nat) : Int), .int .i64 0]) ∧ GS x d m w rb s (a + n) wr rd ks w' := by
  obtain ⟨y, hf, hr, hw, hr2, hk⟩ := h
  refine (Take_any y d W rb s a n hn ha hr).mono ?_
  rintro e w' ⟨rfl, y', f2, h2⟩
  exact ⟨rfl, y', hf.trans (f2.mono (fun c hc => by omega)), h2, fun q e => (hw q e).frame f2 (by omega), fun q e => rdc_frame (hr2 q e) f2 (by omega), rk_frame hk f2 (fun c hc => by omega) hdm⟩
theorem GS.start (hr : RdC x d w rb s a) : GS x d m w rb s a none none [] w := ⟨x, Fr.refl _ _ _, hr, fun q e => (by cases e), fun q e => (by cases e), fun p hp => (by cases hp)⟩
/-- at the end: new blocks bear the reader's colour -/
theorem GS.stop (h : GS x d m w rb s a wr rd ks W) (hm : ∀ b, b < w.heap.size → x b < m) (hrb : rb < w.heap.size) : ∃ x', Fr x x' (fun c => c = d) w W ∧ RdC x' d W rb s a := by
  obtain ⟨y, hf, ⟨h1, h2, h3⟩, _⟩ := h
  refine ⟨paint x w.heap.size d, ⟨hf.os, hf.tape, hf.output, hf.size, fun b hb => paint_old hb, fun b hb _ => paint_new hb, fun b hb hc => hf.old b hb ?_⟩, h1, ?_, h3⟩
  · rintro (e | e)
    · exact hc e
    · have := hm b hb; omega
  · rw [paint_old hrb, ← hf.col rb hrb]; exact h2
end
end Go.Proofs.YtflnpcgnenhogaaDoor.ls
namespace Go.Proofs.YtflnpcgnenhogaaDoor.ls
open Go.RowKit Go.Proofs.YtflnpcgnenhogaaDoor.own Go.Proofs.YtflnpcgnenhogaaDoor.bit

theorem TK.start {x : Nat → Nat} {d t u : Nat} {w W : World} {rb a : Nat} {s : ByteArray} {ks : List (Nat × Obj)} (h : RE x d t u w rb s a ks W) :
    TK x d t u w rb W.heap.size s a false ks (W.alloc (.cells #[.pointer (some ⟨rb, 0, none⟩), .bool false] 101)) :=
  ⟨h.keep _ _, fun p hp => by have := lt_of_block (h.row (b := p.1) (o := p.2) hp); omega⟩
/-- a call that turns nothing but what bears the reader's colour -/
theorem TR.turn {x : Nat → Nat} {d t u : Nat} (hdu : d ≠ u) {w W : World} {rb qb a : Nat} {s : ByteArray} {bad : Bool} {ks : List (Nat × Obj)} {l : List Nat} {v : Value} (h : TR x d t u w rb qb s a bad ks l v W) {f : Nat} {args : Array Value} {P : Ending → Prop} {a2 : Nat}
    (hc : ∀ x', Fr x x' (fun e => e = d ∨ e = t ∨ e = u) w W → RdC x' d W rb s a → (∀ g, v.ownBlock = some g → x' g = u) → Calls Tryd.prog f args W fun en w' => P en ∧ ∃ x2, Fr x' x2 (fun c => c = d) W w' ∧ RdC x2 d w' rb s a2) :
    Calls Tryd.prog f args W fun en w' => P en ∧ TR x d t u w rb qb s a2 bad ks l v w' := by
  obtain ⟨h1, ks', h2, h3, h4, ⟨x', hf, hr, hk⟩, h6⟩ := h
  have hg : ∀ g, v.ownBlock = some g → x' g = u := fun g e => by
    obtain ⟨o, ho⟩ := h2 g e
    exact (hk _ (List.mem_cons_of_mem _ (List.mem_append_left _ ho))).1
  refine (hc x' hf hr hg).mono ?_
  rintro en w' ⟨hp, x2, f2, hr2⟩
  have old : ∀ b, b < W.heap.size → x' b = u → w'.heap[b]? = W.heap[b]? := fun b hb e => f2.old b hb (by rw [e]; exact fun e2 => hdu e2.symm)
  refine ⟨hp, own_same h1 (fun g e => old g ?_ (hg g e)), ks', h2, h3, h4, ⟨x2, hf.trans (f2.mono (fun c hc => .inl hc)), hr2, fun p hp => ?_⟩, h6⟩
  · obtain ⟨o, ho⟩ := own_block h1 e
    exact lt_of_block ho
  · obtain ⟨h7, h8⟩ := hk p hp
    exact ⟨(f2.col _ (lt_of_block h8)).trans h7, (old _ (lt_of_block h8) h7).trans h8⟩
theorem TR.seek {x : Nat → Nat} {d t u : Nat} (hdu : d ≠ u) {w W : World} {rb qb a : Nat} {s : ByteArray} {bad : Bool} {ks : List (Nat × Obj)} {l : List Nat} {v : Value} (h : TR x d t u w rb qb s a bad ks l v W) (a0 : Nat) (ha : a0 ≤ 8 * s.size) :
    Calls Tryd.prog 40 #[.pointer (some ⟨rb, 0, none⟩), .int .i64 (a0 : Int)] W fun en w' => en = .returned (.int .i64 0) ∧ TR x d t u w rb qb s a0 bad ks l v w' :=
  h.turn hdu (P := fun en => en = .returned (.int .i64 0)) (fun x' _ hr _ => (Seek_any x' d s a a0 rb W hr ha).mono (by
    rintro e w' ⟨rfl, f2, h2⟩
    exact ⟨rfl, x', f2, h2⟩))
theorem TR.lv {x : Nat → Nat} {d t u : Nat} {w W : World} {rb qb a : Nat} {s : ByteArray} {bad : Bool} {ks : List (Nat × Obj)} {l : List Nat} {v : Value} (h : TR x d t u w rb qb s a bad ks l v W) (hl : l.length ≤ 200000) (hb : ∀ v ∈ l, v < 65536) : ∃ al cap, v = .slice al l.length cap ∧ l.length ≤ cap ∧ LV W al l :=
  lv_own (by omega) (fun u hu => by have := hb u hu; omega) h.1
/-- a reader, a list of one's own, rows beside -/
def RR (x : Nat → Nat) (d t u : Nat) (w : World) (rb : Nat) (s : ByteArray) (a : Nat) (ks : List (Nat × Obj)) (l : List Nat) (v : Value) (W : World) : Prop :=
  W.ownsRow 0 60 1 v l.length (u32V l) ∧ ∃ ks', (∀ g, v.ownBlock = some g → ∃ o, (g, o) ∈ ks') ∧ (∀ p ∈ ks', some p.1 = v.ownBlock) ∧ (∀ p ∈ ks, some p.1 ≠ v.ownBlock) ∧ RE x d t u w rb s a (ks' ++ ks) W
theorem RR.nil {x : Nat → Nat} {d t u : Nat} {w W : World} {rb a : Nat} {s : ByteArray} {ks : List (Nat × Obj)} (h : RE x d t u w rb s a ks W) : RR x d t u w rb s a ks [] (.slice none 0 0) W :=
  ⟨World.ownsRow_nil _ _ _ _, [], fun _ hg => (by cases hg), fun _ hp => (by cases hp), fun _ _ e => (by cases e), h⟩
/-! ### the plain law -/
end Go.Proofs.YtflnpcgnenhogaaDoor.ls
namespace Go.Proofs.YtflnpcgnenhogaaDoor.ls
open Go.RowKit Go.Proofs.YtflnpcgnenhogaaDoor.own Go.Proofs.YtflnpcgnenhogaaDoor.bit

theorem LV.cellAt {w : World} {a : Option Addr} {l : List Nat} (h : LV w a l) (i : Nat) (hi : i < l.length) : ∃ g o, a = some ⟨g, o, none⟩ ∧ w.cell? ⟨g, o + i, none⟩ = some (.int .u32 (l[i] : Int)) ∧ l[i] < 4294967296 := by
  obtain ⟨g, o, h1, _, h3, h4⟩ := h.2 i hi
  exact ⟨g, o, h1, h3, h4⟩
set_option maxRecDepth 100000 in
set_option maxHeartbeats 3200000 in
theorem same_any (w : World) (a : Option Addr) (l : List Nat) (cap : Nat) (b : Option Addr) (m : List Nat) (capb : Nat) (hc : l.length ≤ cap) (hcb : m.length ≤ capb) (hA : LV w a l) (hB : LV w b m) :
    Calls Tryd.prog 23 #[.slice a l.length cap, .slice b m.length capb] w fun e w' => e = .returned (.bool (decide (l = m))) ∧ Below w.heap.size w w' := by
  have HA := Lib.hid hA
  have HB := Lib.hid hB
  have hl9 := hA.1
  have hm9 := hB.1
  obtain ⟨r, hr⟩ : ∃ r, decide (l = m) = r := ⟨_, rfl⟩
  have HR := Lib.hid hr
  obtain ⟨n, hn⟩ : ∃ n, l.length = n := ⟨_, rfl⟩
  obtain ⟨n2, hn2⟩ : ∃ n, m.length = n := ⟨_, rfl⟩
  have HN := Lib.hid hn
  have HN2 := Lib.hid hn2
  rw [hr]
  rw [hn] at hc hl9 ⊢
  rw [hn2] at hcb hm9 ⊢
  clear hA hB hr hn hn2
  go_enter Tryd.func23, Tryd.ntmps23
  by_cases he : n = n2
  · subst he
    have i1 : ((n : Int) != (n : Int)) = false := by simp
    go_wp2_with fail
    go_loopw [5] (fun v5 wr => ∃ i q : Nat, v5 = .int .i64 (i : Int) ∧ i ≤ n ∧ l.take i = m.take i ∧ wr = w.drewN q) (fun v5 _ => n - (intOf v5).toNat)
    case atStart => exact ⟨0, 0, rfl, Nat.zero_le _, rfl, rfl⟩
    case round =>
      obtain ⟨i, q, rfl, hi, hag, rfl⟩ := hrel
      have AG := Lib.hid hag
      clear hag
      by_cases hlt : i < n
      · have i2 : decide ((i : Int) < (n : Int)) = true := decide_eq_true (by omega)
        obtain ⟨g, o, ha, c1, b1⟩ := HA.out.cellAt i (by rw [HN.out]; exact hlt)
        obtain ⟨g2, o2, ha2, c2, b2⟩ := HB.out.cellAt i (by rw [HN2.out]; exact hlt)
        subst ha ha2
        obtain ⟨y, hy⟩ : ∃ y, l[i]'(by rw [HN.out]; exact hlt) = y := ⟨_, rfl⟩
        obtain ⟨y2, hy2⟩ : ∃ y, m[i]'(by rw [HN2.out]; exact hlt) = y := ⟨_, rfl⟩
        rw [hy] at c1 b1
        rw [hy2] at c2 b2
        have NX : Hid (y = y2 → l.take (i + 1) = m.take (i + 1)) := Lib.hid (fun h => by
          rw [List.take_succ_eq_append_getElem (by rw [HN.out]; exact hlt), List.take_succ_eq_append_getElem (by rw [HN2.out]; exact hlt), AG.out, hy, hy2, h])
        have NO : Hid (y ≠ y2 → l ≠ m) := Lib.hid (fun h e => by
          subst e
          exact h (hy.symm.trans hy2))
        clear hy hy2
        by_cases hyy : y = y2
        · have i3 : ((y : Int) != (y2 : Int)) = false := by simp [hyy]
          have NX2 := Lib.hid (NX.out hyy)
          clear NX NO hyy
          go_upto_region 6 with fail
          go_quiet (fail)
          go_wp2_with fail
          go_roundw
          case rel => exact ⟨i + 1, _, by go_num, by omega, NX2.out, (by first | rfl | exact drewN_add _ _ _)⟩
          case measure => simp [intOf]; omega
        · have i3 : ((y : Int) != (y2 : Int)) = true := by simp; omega
          obtain rfl : r = false := by rw [← HR.out]; exact decide_eq_false (NO.out hyy)
          clear NX NO hyy
          go_upto_region 6 with fail
          go_quiet (fail)
          go_wp2_with fail
          go_ret
          exact ⟨rfl, (by repeat (first | exact Below.refl _ _ | refine Below.drew ?_ | refine below_drewN ?_ _ | refine Below.setCell ?_ (by simp; try omega) _ | refine Below.alloc ?_ (by simp; try omega) _))⟩
      · have hin : i = n := by omega
        subst hin
        have i2 : decide ((i : Int) < (i : Int)) = false := decide_eq_false (by omega)
        obtain rfl : r = true := by
          rw [← HR.out]
          refine decide_eq_true ?_
          have := AG.out
          rwa [List.take_of_length_le (by rw [HN.out]; exact Nat.le_refl _), List.take_of_length_le (by rw [HN2.out]; exact Nat.le_refl _)] at this
        go_wp2_with fail
        go_ret
        exact ⟨rfl, (by repeat (first | exact Below.refl _ _ | refine Below.drew ?_ | refine below_drewN ?_ _ | refine Below.setCell ?_ (by simp; try omega) _ | refine Below.alloc ?_ (by simp; try omega) _))⟩
  · have i1 : ((n : Int) != (n2 : Int)) = true := by simp; omega
    obtain rfl : r = false := by rw [← HR.out]; exact decide_eq_false (fun h => he (by rw [← HN.out, ← HN2.out, h]))
    clear he
    go_wp2_with fail
    go_ret
    exact ⟨rfl, (by repeat (first | exact Below.refl _ _ | refine Below.drew ?_ | refine below_drewN ?_ _ | refine Below.setCell ?_ (by simp; try omega) _ | refine Below.alloc ?_ (by simp; try omega) _))⟩
set_option maxRecDepth 100000 in
theorem pown_any (win itv zet : Int) (w : World) : Calls Tryd.prog 10 #[.agg #[.int .i64 win, .int .i64 itv, .int .i64 zet]] w fun e w' => e = .returned (.agg #[.int .i64 win, .int .i64 itv, .int .i64 zet]) ∧ Below w.heap.size w w' := by
  go_enter Tryd.func10, Tryd.ntmps10
  go_wp2_with fail
  generalize hW : World.alloc (World.alloc w _) _ = W0
  obtain ⟨r1, r2, kb⟩ := rows2 hW
  have q0 : W0.cell? ⟨w.heap.size + 1, 0, none⟩ = some (.int .i64 win) := by rw [cell_of_row _ _ _ _ _ _ r2]; rfl
  have q1 : W0.cell? ⟨w.heap.size + 1, 1, none⟩ = some (.int .i64 itv) := by rw [cell_of_row _ _ _ _ _ _ r2]; rfl
  have q2 : W0.cell? ⟨w.heap.size + 1, 2, none⟩ = some (.int .i64 zet) := by rw [cell_of_row _ _ _ _ _ _ r2]; rfl
  exact bodyPost_ret (v := .agg #[.int .i64 win, .int .i64 itv, .int .i64 zet]) (by simp [results, Tryd.results10, go_sem, q0, q1, q2]) rfl ⟨rfl, kb⟩
end Go.Proofs.YtflnpcgnenhogaaDoor.ls
namespace Go.Proofs.YtflnpcgnenhogaaDoor.ls
open Go.RowKit Go.Proofs.YtflnpcgnenhogaaDoor.own Go.Proofs.YtflnpcgnenhogaaDoor.bit

/-- a vertex, its successors, those of its reference, how far back that is, the Params -/
structure One where
  X : Int
  sa : Option Addr
  succ : List Nat
  sc : Nat
  ra : Option Addr
  ref : List Nat
  rc : Nat
  R : Int
  win : Int
  itv : Int
  zet : Int
def One.cells (o : One) : List Value := [.int .i64 o.X, .slice o.sa o.succ.length o.sc, .slice o.ra o.ref.length o.rc, .int .i64 o.R, .int .i64 o.win, .int .i64 o.itv, .int .i64 o.zet]
def One.In (o : One) (w : World) : Prop := LV w o.sa o.succ ∧ o.succ.length ≤ o.sc ∧ LV w o.ra o.ref ∧ o.ref.length ≤ o.rc
def One.may (o : One) : Prop := MayI o.win o.itv o.zet o.X o.succ o.ref o.R
def One.pr (o : One) : Pr := ⟨o.win.toNat, o.itv.toNat, o.zet.toNat⟩
def One.lay (o : One) : Bits := ls.lay o.X.toNat o.succ o.ref o.R.toNat o.pr
theorem One.nat {o : One} (h : o.may) : o.X = (o.X.toNat : Int) ∧ o.R = (o.R.toNat : Int) ∧ o.win = (o.pr.win : Int) ∧ o.itv = (o.pr.itv : Int) ∧ o.zet = (o.pr.zet : Int) ∧ MayN o.X.toNat o.succ o.ref o.R.toNat o.pr := by
  have h' := h
  obtain ⟨⟨h1, h2, h3, h4, h5⟩, ⟨h6, h7⟩, h8, h9, h10, h11, h12⟩ := h'
  have e1 : o.X = (o.X.toNat : Int) := by omega
  have e2 : o.R = (o.R.toNat : Int) := by omega
  have e3 : o.win = (o.pr.win : Int) := by show _ = ((o.win.toNat : Nat) : Int); omega
  have e4 : o.itv = (o.pr.itv : Int) := by show _ = ((o.itv.toNat : Nat) : Int); omega
  have e5 : o.zet = (o.pr.zet : Int) := by show _ = ((o.zet.toNat : Nat) : Int); omega
  refine ⟨e1, e2, e3, e4, e5, mayN_mayI.1 ?_⟩
  rw [← e1, ← e2, ← e3, ← e4, ← e5]
  exact h
theorem One.In.below {o : One} {w w' : World} (h : o.In w) (k : Below w.heap.size w w') : o.In w' := ⟨h.1.below k, h.2.1, h.2.2.1.below k, h.2.2.2⟩
/-- Ones in memory that are only read -/
def OL (w : World) (a : Option Addr) (L : List One) : Prop := ∀ i (h : i < L.length), ∃ g o, a = some ⟨g, o, none⟩ ∧ g < w.heap.size ∧ (∀ k, k < 7 → w.cell? ⟨g, o + 7 * i + k, none⟩ = (L[i].cells)[k]?) ∧ L[i].In w
theorem OL.below {w w' : World} {a : Option Addr} {L : List One} (h : OL w a L) (k : Below w.heap.size w w') : OL w' a L := fun i hi => by
  obtain ⟨g, o, h1, h2, h3, h4⟩ := h i hi
  exact ⟨g, o, h1, Nat.lt_of_lt_of_le h2 k.size, fun j hj => (World.cell?_of_block (k.block g h2)).trans (h3 j hj), h4.below k⟩

def onesV (M : List One) : List Value := M.flatMap One.cells
/-! ### the state -/
theorem FS.grown {w W W2 : World} {wr : Option (Nat × Bits)} {rd : Option (Nat × ByteArray × Nat)} {ks ks' : List (Nat × Obj)} {row : Option Nat} (h : FS w wr rd ks W) (hg : W.grownBy W2 row) (hrow : ∀ g, row = some g → ∃ o, (g, o) ∈ ks)
    (hk' : ∀ p ∈ ks', (p ∈ ks ∧ some p.1 ≠ row) ∨ ((some p.1 = row ∨ W.heap.size ≤ p.1) ∧ W2.heap[p.1]? = some p.2)) : FS w wr rd ks' W2 := by
  obtain ⟨x, hf, hw, hr, hk⟩ := h
  have hcol : ∀ g, row = some g → x g = 4 ∧ g < W.heap.size := fun g e => by
    obtain ⟨o, ho⟩ := hrow g e
    have := hk _ ho
    exact ⟨this.1, lt_of_block this.2⟩
  have f2 : Fr x (paint x W.heap.size 4) (fun e => e = 4) W W2 := Fr.of_steps hg.os hg.tape hg.output hg.size rfl (fun b hb hu => hg.block b hb (fun e => hu (hcol b e.symm).1))
  refine ⟨_, hf.trans (f2.mono (fun c hc => by show c < 50; omega)), fun q e => (hw q e).frame f2 (by decide), fun q e => rdc_frame (hr q e) f2 (by decide), fun p hp => ?_⟩
  rcases hk' p hp with ⟨h1, h2⟩ | ⟨h1, h2⟩
  · obtain ⟨h3, h4⟩ := hk p h1
    exact ⟨(paint_old (lt_of_block h4)).trans h3, (hg.block _ (lt_of_block h4) h2).trans h4⟩
  · refine ⟨?_, h2⟩
    rcases h1 with h1 | h1
    · have := hcol _ h1.symm
      exact (paint_old this.2).trans this.1
    · exact paint_new h1
theorem FS.sub {w W : World} {wr : Option (Nat × Bits)} {rd : Option (Nat × ByteArray × Nat)} {ks ks' : List (Nat × Obj)} (h : FS w wr rd ks W) (hs : ∀ p ∈ ks', p ∈ ks) : FS w wr rd ks' W := by
  obtain ⟨x, hf, hw, hr, hk⟩ := h
  exact ⟨x, hf, hw, hr, fun p hp => hk p (hs p hp)⟩
end Go.Proofs.YtflnpcgnenhogaaDoor.ls
namespace Go.Proofs.YtflnpcgnenhogaaDoor.ls
open Go.RowKit Go.Proofs.YtflnpcgnenhogaaDoor.own Go.Proofs.YtflnpcgnenhogaaDoor.bit

theorem own_same2 {W W' : World} {base : Nat} {T : TypeId} {sz : Nat} {v : Value} {n : Nat} {xs : List Value} (h : W.ownsRow base T sz v n xs) (hs : ∀ g, v.ownBlock = some g → W'.heap[g]? = W.heap[g]?) : W'.ownsRow base T sz v n xs := by
  refine ⟨h.1, ?_⟩
  rcases h.2 with h2 | ⟨g, cap, cur, hv, hb, hg, r⟩
  · exact .inl h2
  · exact .inr ⟨g, cap, cur, hv, hb, (hs g (by rw [hv]; rfl)).trans hg, r⟩
/-- two rows that the law owns, beside the writer and the reader -/
def LF (w : World) (wr : Option (Nat × Bits)) (rd : Option (Nat × ByteArray × Nat)) (ks : List (Nat × Obj)) (vm : Value) (M : List One) (ve : Value) (E : List Nat) (W : World) : Prop :=
  W.ownsRow 0 33 7 vm M.length (onesV M) ∧ W.ownsRow 0 3 1 ve E.length (intV E) ∧ (∀ g, vm.ownBlock = some g → ve.ownBlock ≠ some g) ∧
  ∃ km ke, (∀ g, vm.ownBlock = some g → ∃ o, (g, o) ∈ km) ∧ (∀ p ∈ km, some p.1 = vm.ownBlock) ∧ (∀ g, ve.ownBlock = some g → ∃ o, (g, o) ∈ ke) ∧ (∀ p ∈ ke, some p.1 = ve.ownBlock) ∧
    (∀ p ∈ ks, some p.1 ≠ vm.ownBlock ∧ some p.1 ≠ ve.ownBlock) ∧ FS w wr rd (km ++ (ke ++ ks)) W
section
variable {w W : World} {wr : Option (Nat × Bits)} {rd : Option (Nat × ByteArray × Nat)} {ks : List (Nat × Obj)} {vm ve : Value} {M : List One} {E : List Nat}
theorem LF.start (h : FS w wr rd ks W) : LF w wr rd ks (.slice none 0 0) [] (.slice none 0 0) [] W :=
  ⟨World.ownsRow_nil _ _ _ _, World.ownsRow_nil _ _ _ _, fun _ hg => (by cases hg), [], [], fun _ hg => (by cases hg), fun _ hp => (by cases hp), fun _ hg => (by cases hg), fun _ hp => (by cases hp), fun _ _ => ⟨fun e => (by cases e), fun e => (by cases e)⟩, h⟩
theorem LF.fs (h : LF w wr rd ks vm M ve E W) : FS w wr rd ks W := by
  obtain ⟨_, _, _, km, ke, _, _, _, _, _, h6⟩ := h
  exact h6.sub (fun p hp => List.mem_append_right _ (List.mem_append_right _ hp))
theorem LF.below (h : LF w wr rd ks vm M ve E W) : Below w.heap.size w W := h.fs.below
theorem LF.row (h : LF w wr rd ks vm M ve E W) {b : Nat} {o : Obj} (hm : (b, o) ∈ ks) : W.heap[b]? = some o := h.fs.row hm
theorem LF.next (h : LF w wr rd ks vm M ve E W) {W' : World} (k : Below W.heap.size W W') : LF w wr rd ks vm M ve E W' := by
  obtain ⟨h1, h2, h3, km, ke, h4, h5, h6, h7, h8, h9⟩ := h
  exact ⟨own_below h1 k, own_below h2 k, h3, km, ke, h4, h5, h6, h7, h8, h9.next k⟩
theorem LF.drew (h : LF w wr rd ks vm M ve E W) : LF w wr rd ks vm M ve E W.drew := h.next (Below.drew (Below.refl _ _))
theorem LF.drewN (h : LF w wr rd ks vm M ve E W) (n : Nat) : LF w wr rd ks vm M ve E (W.drewN n) := h.next ⟨rfl, rfl, rfl, Nat.le_refl _, fun _ _ => rfl⟩
theorem LF.sub (h : LF w wr rd ks vm M ve E W) {ks0 : List (Nat × Obj)} (hs : ∀ p ∈ ks0, p ∈ ks) : LF w wr rd ks0 vm M ve E W := by
  obtain ⟨h1, h2, h3, km, ke, h4, h5, h6, h7, h8, h9⟩ := h
  refine ⟨h1, h2, h3, km, ke, h4, h5, h6, h7, fun p hp => h8 p (hs p hp), h9.sub (fun p hp => ?_)⟩
  rcases List.mem_append.1 hp with hp | hp
  · exact List.mem_append_left _ hp
  · rcases List.mem_append.1 hp with hp | hp
    · exact List.mem_append_right _ (List.mem_append_left _ hp)
    · exact List.mem_append_right _ (List.mem_append_right _ (hs p hp))
theorem LF.add (h : LF w wr rd ks vm M ve E W) (row : Array Value) (T : TypeId) : LF w wr rd ((W.heap.size, .cells row T (0, 0)) :: ks) vm M ve E (W.alloc (.cells row T)) := by
  obtain ⟨h1, h2, h3, km, ke, h4, h5, h6, h7, h8, h9⟩ := h
  have k : Below W.heap.size W (W.alloc (.cells row T)) := (Below.refl _ _).alloc (Nat.le_refl _) _
  refine ⟨own_below h1 k, own_below h2 k, h3, km, ke, h4, h5, h6, h7, fun p hp => ?_, (h9.add row T).sub (fun p hp => ?_)⟩
  · rcases List.mem_cons.1 hp with rfl | hp
    · exact ⟨fun e => by have := (h1.lt _ e.symm).2; exact absurd this (Nat.lt_irrefl _), fun e => by have := (h2.lt _ e.symm).2; exact absurd this (Nat.lt_irrefl _)⟩
    · exact h8 p hp
  · rcases List.mem_append.1 hp with hp | hp
    · exact List.mem_cons_of_mem _ (List.mem_append_left _ hp)
    · rcases List.mem_append.1 hp with hp | hp
      · exact List.mem_cons_of_mem _ (List.mem_append_right _ (List.mem_append_left _ hp))
      · rcases List.mem_cons.1 hp with rfl | hp
        · exact List.mem_cons_self ..
        · exact List.mem_cons_of_mem _ (List.mem_append_right _ (List.mem_append_right _ hp))
/-- a call that keeps the state of writer, reader and rows keeps the law's own rows -/
theorem LF.keep {W' : World} (h : LF w wr rd ks vm M ve E W) {wr' : Option (Nat × Bits)} {rd' : Option (Nat × ByteArray × Nat)} (hk : ∀ ks1, FS w wr rd ks1 W → FS w wr' rd' ks1 W') : LF w wr' rd' ks vm M ve E W' := by
  obtain ⟨h1, h2, h3, km, ke, h4, h5, h6, h7, h8, h9⟩ := h
  have h10 := hk _ h9
  refine ⟨own_same2 h1 (fun g hg => ?_), own_same2 h2 (fun g hg => ?_), h3, km, ke, h4, h5, h6, h7, h8, h10⟩
  · obtain ⟨o, ho⟩ := h4 g hg
    rw [h9.row (b := g) (o := o) (List.mem_append_left _ ho), h10.row (b := g) (o := o) (List.mem_append_left _ ho)]
  · obtain ⟨o, ho⟩ := h6 g hg
    rw [h9.row (b := g) (o := o) (List.mem_append_right _ (List.mem_append_left _ ho)), h10.row (b := g) (o := o) (List.mem_append_right _ (List.mem_append_left _ ho))]
theorem LF.call (h : LF w wr rd ks vm M ve E W) {f : Nat} {args : Array Value} {P : Ending → World → Prop} {wr' : Option (Nat × Bits)} {rd' : Option (Nat × ByteArray × Nat)}
    (hc : ∀ ks1, FS w wr rd ks1 W → Calls Tryd.prog f args W fun e w' => P e w' ∧ FS w wr' rd' ks1 w') : Calls Tryd.prog f args W fun e w' => P e w' ∧ LF w wr' rd' ks vm M ve E w' := by
  obtain ⟨h1, h2, h3, km, ke, h4, h5, h6, h7, h8, h9⟩ := h
  refine (hc _ h9).mono ?_
  rintro e w' ⟨hp, h10⟩
  refine ⟨hp, own_same2 h1 (fun g hg => ?_), own_same2 h2 (fun g hg => ?_), h3, km, ke, h4, h5, h6, h7, h8, h10⟩
  · obtain ⟨o, ho⟩ := h4 g hg
    rw [h9.row (b := g) (o := o) (List.mem_append_left _ ho), h10.row (b := g) (o := o) (List.mem_append_left _ ho)]
  · obtain ⟨o, ho⟩ := h6 g hg
    rw [h9.row (b := g) (o := o) (List.mem_append_right _ (List.mem_append_left _ ho)), h10.row (b := g) (o := o) (List.mem_append_right _ (List.mem_append_left _ ho))]
/-- the same, with what the call tells besides -/
theorem LF.callX (h : LF w wr rd ks vm M ve E W) {f : Nat} {args : Array Value} {β : Type} {P : β → Ending → Prop} {wr' : β → Option (Nat × Bits)} {rd' : β → Option (Nat × ByteArray × Nat)}
    (hc : ∀ ks1, FS w wr rd ks1 W → Calls Tryd.prog f args W fun e w' => ∃ b, P b e ∧ FS w (wr' b) (rd' b) ks1 w') : Calls Tryd.prog f args W fun e w' => ∃ b, P b e ∧ LF w (wr' b) (rd' b) ks vm M ve E w' := by
  obtain ⟨h1, h2, h3, km, ke, h4, h5, h6, h7, h8, h9⟩ := h
  refine (hc _ h9).mono ?_
  rintro e w' ⟨b, hp, h10⟩
  refine ⟨b, hp, own_same2 h1 (fun g hg => ?_), own_same2 h2 (fun g hg => ?_), h3, km, ke, h4, h5, h6, h7, h8, h10⟩
  · obtain ⟨o, ho⟩ := h4 g hg
    rw [h9.row (b := g) (o := o) (List.mem_append_left _ ho), h10.row (b := g) (o := o) (List.mem_append_left _ ho)]
  · obtain ⟨o, ho⟩ := h6 g hg
    rw [h9.row (b := g) (o := o) (List.mem_append_right _ (List.mem_append_left _ ho)), h10.row (b := g) (o := o) (List.mem_append_right _ (List.mem_append_left _ ho))]
end
end Go.Proofs.YtflnpcgnenhogaaDoor.ls
namespace Go.Proofs.YtflnpcgnenhogaaDoor.ls
open Go.RowKit Go.Proofs.YtflnpcgnenhogaaDoor.own Go.Proofs.YtflnpcgnenhogaaDoor.bit

theorem isIn_true {l : List Nat} {v : Nat} (i : Nat) (hi : i < l.length) (h : l[i] = v) : isIn l v = true := isIn_mem.2 (h ▸ List.getElem_mem hi)
theorem isIn_false {l : List Nat} {v : Nat} (hp : l.Pairwise (· < ·)) (i : Nat) (hi : i ≤ l.length) (hb : ∀ j (h : j < l.length), j < i → l[j] < v) (h : ∀ h : i < l.length, v < l[i]) : isIn l v = false := by
  refine isIn_no (fun hm => ?_)
  obtain ⟨j, hj, rfl⟩ := List.mem_iff_getElem.1 hm
  rcases Nat.lt_or_ge j i with h1 | h1
  · exact absurd (hb j hj h1) (Nat.lt_irrefl _)
  · have h2 : i < l.length := by omega
    have h3 := h h2
    rcases Nat.eq_or_lt_of_le h1 with e | e
    · subst e; omega
    · have := List.pairwise_iff_getElem.1 hp i j h2 hj e
      omega
set_option maxRecDepth 100000 in
set_option maxHeartbeats 3200000 in
theorem in_any (w : World) (a : Option Addr) (l : List Nat) (cap v : Nat) (hA : LV w a l) (hp : l.Pairwise (· < ·)) :
    Calls Tryd.prog 66 #[.slice a l.length cap, .int .u32 (v : Int)] w fun e w' => e = .returned (.bool (isIn l v)) ∧ w = w' := by
  have HA := Lib.hid hA
  have hl9 := hA.1
  obtain ⟨r, hr⟩ : ∃ r, isIn l v = r := ⟨_, rfl⟩
  have YES : Hid (∀ i (hi : i < l.length), l[i] = v → r = true) := Lib.hid (fun i hi h => hr ▸ isIn_true i hi h)
  have NO : Hid (∀ i, i ≤ l.length → (∀ j (h : j < l.length), j < i → l[j] < v) → (∀ h : i < l.length, v < l[i]) → r = false) := Lib.hid (fun i hi h1 h2 => hr ▸ isIn_false hp i hi h1 h2)
  rw [hr]
  obtain ⟨n, hn⟩ : ∃ n, l.length = n := ⟨_, rfl⟩
  have HN := Lib.hid hn
  rw [hn] at hl9 ⊢
  clear hA hr hn hp
  go_enter Tryd.func66, Tryd.ntmps66
  go_wp2_with fail
  go_loopw [5] (fun v5 wr => ∃ i : Nat, v5 = .int .i64 (i : Int) ∧ i ≤ n ∧ (∀ j (h : j < l.length), j < i → l[j] < v) ∧ wr = w) (fun v5 _ => n - (intOf v5).toNat)
  case atStart => exact ⟨0, rfl, Nat.zero_le _, fun j _ h => by omega, rfl⟩
  case round =>
    obtain ⟨i, rfl, hi, hag, rfl⟩ := hrel
    have AG := Lib.hid hag
    clear hag
    by_cases hlt : i < n
    · have i1 : decide ((i : Int) < (n : Int)) = true := decide_eq_true (by omega)
      have hil : i < l.length := by rw [HN.out]; exact hlt
      obtain ⟨g, o, ha, c1, b1⟩ := HA.out.cellAt i hil
      subst ha
      obtain ⟨y, hy⟩ : ∃ y, l[i] = y := ⟨_, rfl⟩
      rw [hy] at c1 b1
      rcases Nat.lt_trichotomy y v with h1 | h1 | h1
      · have i2 : decide ((y : Int) ≤ (v : Int)) = true := decide_eq_true (by omega)
        have i2n : decide (y ≤ v) = true := decide_eq_true (by omega)
        have i3 : ((y : Int) == (v : Int)) = false := beq_eq_false_iff_ne.2 (by omega)
        have NX : Hid (∀ j (h : j < l.length), j < i + 1 → l[j] < v) := Lib.hid (fun j h hj => by
          rcases Nat.lt_or_ge j i with h2 | h2
          · exact AG.out j h h2
          · have : j = i := by omega
            subst this
            rw [hy]; exact h1)
        clear hy h1
        go_wp2_with fail
        go_roundw
        case rel => exact ⟨i + 1, by go_num, by omega, NX.out, by first | rfl | trivial⟩
        case measure => simp [intOf]; omega
      · have i2 : decide ((y : Int) ≤ (v : Int)) = true := decide_eq_true (by omega)
        have i2n : decide (y ≤ v) = true := decide_eq_true (by omega)
        have i3 : ((y : Int) == (v : Int)) = true := by simp [h1]
        obtain rfl := YES.out i hil (hy.trans h1)
        clear hy h1
        go_wp2_with fail
        go_ret
        exact ⟨rfl, rfl⟩
      · have i2 : decide ((y : Int) ≤ (v : Int)) = false := decide_eq_false (by omega)
        have i2n : decide (y ≤ v) = false := decide_eq_false (by omega)
        obtain rfl := NO.out i (by omega) AG.out (fun _ => by rw [hy]; exact h1)
        clear hy h1
        go_wp2_with fail
        go_ret
        exact ⟨rfl, rfl⟩
    · have hin : i = n := by omega
      subst hin
      have i1 : decide ((i : Int) < (i : Int)) = false := decide_eq_false (by omega)
      obtain rfl := NO.out i (by rw [HN.out]; exact Nat.le_refl _) AG.out (fun h => by rw [HN.out] at h; omega)
      go_wp2_with fail
      go_ret
      exact ⟨rfl, rfl⟩
theorem own_idx {w : World} {base : Nat} {T : TypeId} {v : Value} {n : Nat} {xs : List Value} (h : w.ownsRow base T 1 v n xs) (j : Nat) (hj : j < n) :
    ∃ g cap, v = .slice (some ⟨g, 0, none⟩) n cap ∧ n ≤ cap ∧ base ≤ g ∧ w.cell? ⟨g, j, none⟩ = xs[j]? ∧ (∀ i, w.frozen? ⟨g, i, none⟩ = false) ∧ ∀ u, (w.setCell ⟨g, j, none⟩ u).ownsRow base T 1 v n (xs.set j u) := by
  rcases h.2 with ⟨_, h0⟩ | ⟨g, cap, cur, rfl, hb, hg, hn, _⟩
  · omega
  · exact ⟨g, cap, rfl, hn, hb, h.cellAt j (by omega), fun i => h.frozenAt i, fun u => (h.stored j u).1⟩
/-- the runs' row -/
def runV (q : List Nat × Nat) : List Value := intV (q.1 ++ [q.2])
theorem runV_last (I : List Nat) (z : Nat) : (runV (I, z))[I.length]? = some (Value.int .i64 (z : Int)) := by
  unfold runV intV
  rw [List.map_append, List.getElem?_append_right (Nat.le_of_eq (List.length_map _)), List.length_map, Nat.sub_self]
  rfl
theorem runV_set (I : List Nat) (z z2 : Nat) : (runV (I, z)).set I.length (Value.int .i64 (z2 : Int)) = runV (I, z2) := by
  unfold runV intV
  rw [List.map_append, List.set_append_right _ _ (Nat.le_of_eq (List.length_map _)), List.length_map, Nat.sub_self, List.map_append]
  rfl
theorem runV_length (q : List Nat × Nat) : (runV q).length = q.1.length + 1 := by simp [runV, intV]
set_option maxRecDepth 100000 in
set_option maxHeartbeats 3200000 in
theorem druns_any (w : World) (a : Option Addr) (succ : List Nat) (capa : Nat) (b : Option Addr) (ref : List Nat) (capb : Nat) (hA : LV w a succ) (hB : LV w b ref) (hs : Ris succ) (hr : Ris ref) :
    Calls Tryd.prog 65 #[.slice a succ.length capa, .slice b ref.length capb] w fun e w' => ∃ v, e = .returned v ∧ w'.ownsRow w.heap.size 3 1 v ((runs succ ref).1.length + 1) (runV (runs succ ref)) ∧ Below w.heap.size w w' := by
  obtain ⟨j0, hj, hj0, hj1, hj2⟩ := info_parts Tryd.infoInt
  have HB := Lib.hid hB
  have hrl := hr.len
  have HR := Lib.hid hr.2
  have IN := Lib.hid (fun W (k : Below w.heap.size w W) v => in_any W a succ capa v (hA.below k) hs.1)
  obtain ⟨Q, hQ⟩ : ∃ Q, runs succ ref = Q := ⟨_, rfl⟩
  have HQ : Hid (Q = ref.foldl (fun q v => rst q (isIn succ v)) ([], 0)) := Lib.hid (by rw [← hQ]; rfl)
  rw [hQ]
  obtain ⟨n, hn⟩ : ∃ n, ref.length = n := ⟨_, rfl⟩
  have HN := Lib.hid hn
  rw [hn] at hrl ⊢
  clear hA hB hs hr hQ hn
  go_enter Tryd.func65, Tryd.ntmps65
  go_wp2_with fail
  go_loopw [5, 6] (fun v5 v6 wr => ∃ (i : Nat) (q : List Nat × Nat), v6 = .int .i64 (i : Int) ∧ i ≤ n ∧ q.1.length ≤ i ∧ q.2 ≤ i ∧ Q = (ref.drop i).foldl (fun q v => rst q (isIn succ v)) q ∧ wr.ownsRow w.heap.size 3 1 v5 (q.1.length + 1) (runV q) ∧ Below w.heap.size w wr) (fun _ v6 _ => n - (intOf v6).toNat)
  case atStart => exact ⟨0, ([], 0), rfl, Nat.zero_le _, Nat.le_refl _, Nat.le_refl _, HQ.out, by
    have h := World.ownsRow_lit (base := w.heap.size) (e := 3) (size := 1) w #[.int .i64 0] 1 (Nat.le_refl _) (by simp only [maxLen]; omega) rfl
    exact h, (Below.refl _ _).alloc (Nat.le_refl _) _⟩
  case round =>
    obtain ⟨i, q, rfl, hi, hq1, hq2, hE, hown, hbel⟩ := hrel
    have HE := Lib.hid hE
    have HO := Lib.hid hown
    have HK := Lib.hid hbel
    obtain ⟨s5, d5, rfl⟩ := own_shape hown
    obtain ⟨I, z⟩ := q
    obtain ⟨m, hm⟩ : ∃ m, I.length + 1 = m := ⟨_, rfl⟩
    dsimp only at hq1 hq2 HE HO ⊢
    rw [hm] at HO ⊢
    have HM := Lib.hid hm
    clear hE hown hbel
    by_cases hlt : i < n
    · have i1 : decide ((i : Int) < (n : Int)) = true := decide_eq_true (by omega)
      have hil : i < ref.length := by rw [HN.out]; exact hlt
      obtain ⟨g, o, hb, c1, b1⟩ := (HB.out.below HK.out).cellAt i hil
      subst hb
      have hE2 := HE.out
      rw [List.drop_eq_getElem_cons hil, List.foldl_cons] at hE2
      obtain ⟨y, hy⟩ : ∃ y, ref[i] = y := ⟨_, rfl⟩
      rw [hy] at c1 b1 hE2
      have IN1 := Lib.hid (IN.out _ HK.out y)
      obtain ⟨own, hown⟩ : ∃ o, isIn succ y = o := ⟨_, rfl⟩
      rw [hown] at IN1 hE2
      have HE2 := Lib.hid hE2
      clear hy hE2 hown HE
      obtain ⟨cb, hcb⟩ : ∃ cb, (!own == ((m : Int) % 2 == 1)) = cb := ⟨_, rfl⟩
      have HCB : Hid (rst (I, z) own = if cb then (I ++ [z], 1) else (I, z + 1)) := Lib.hid (by
        have e : (own != ((I.length + 1) % 2 == 1)) = cb := by
          rw [← hcb, hm]
          have e2 : ((m : Int) % 2 == 1) = (m % 2 == 1) := by
            rcases Nat.mod_two_eq_zero_or_one m with h | h
            · rw [h, show (m : Int) % 2 = 0 by omega]; rfl
            · rw [h, show (m : Int) % 2 = 1 by omega]; rfl
          rw [e2]
          cases own <;> cases (m % 2 == 1) <;> rfl
        unfold rst
        dsimp only
        rw [e])
      go_wp2_with fail
      with_reducible refine IN1.out.mono ?_
      rintro e w2 ⟨rfl, rfl⟩
      clear IN1 c1
      go_upto_if 24 with fail
      cases cb with
      | true =>
        have OWN1 := Lib.hid (HO.out.alloc (.cells #[.int .i64 0] 3))
        have C1 : Hid (∀ j u, ([.int .i64 0] : List Value)[j]? = some u → (wr.alloc (.cells #[.int .i64 0] 3)).cell? ((⟨wr.heap.size, 0, none⟩ : Addr).add j) = some u) := Lib.hid (fun j u hu => by
          rw [Addr.add_lit, cell_of_row _ _ _ _ _ _ (heap_alloc_new _ _), Nat.zero_add]; simpa using hu)
        have C3 : Hid (m + 1 ≤ maxLen) := Lib.hid (by simp only [maxLen]; omega)
        have C4 : Hid ((m + 1) * 8 ≤ 140737488355328) := Lib.hid (by omega)
        have C5 : Hid (w.heap.size ≤ (wr.alloc (.cells #[.int .i64 0] 3)).heap.size) := Lib.hid (by have := HK.out.size; simp; omega)
        go_wp2_with (at_builtin; refine wpList_append_at _ rfl _ _ 50 rfl w.heap.size 3 j0 _ 1 8 Tryd.underlying50 hj hj0 hj1 hj2 rfl (by decide) _ m _ rfl OWN1.out ⟨wr.heap.size, 0, none⟩ 1 1 [.int .i64 0] rfl rfl C1.out (fun u hu => by simp at hu; subst hu; rfl) C3.out C4.out C5.out (by decide) ?_)
        intro v' w3 own' hg3 hw3
        have KA : Hid (Below w.heap.size w (wr.alloc (.cells #[.int .i64 0] 3))) := Lib.hid (HK.out.alloc HK.out.size _)
        have HK3 : Hid (Below w.heap.size w w3) := Lib.hid (KA.out.grown hg3 KA.out.size (fun k hk => (OWN1.out.lt k hk).1))
        obtain ⟨g3, d3, rfl, hd3, hb3, cell3, fz3, st3⟩ := own_idx own' m (Nat.lt_succ_self _)
        have hx : (runV (I, z) ++ [Value.int .i64 0])[m]? = some (Value.int .i64 0) := by
          rw [List.getElem?_append_right (by rw [runV_length]; show I.length + 1 ≤ m; omega), runV_length, show m - (I.length + 1) = 0 by omega]
          rfl
        rw [hx] at cell3
        have ST : Hid ((w3.setCell ⟨g3, m, none⟩ (.int .i64 1)).ownsRow w.heap.size 3 1 (.slice (some ⟨g3, 0, none⟩) (m + 1) d3) (m + 1) (runV (I ++ [z], 1))) := Lib.hid (by
          have h := st3 (.int .i64 1)
          have e : (runV (I, z) ++ [Value.int .i64 0]).set m (Value.int .i64 1) = runV (I ++ [z], 1) := by
            rw [List.set_append_right _ _ (by rw [runV_length]; show I.length + 1 ≤ m; omega), runV_length, show m - (I.length + 1) = 0 by omega]
            simp [runV, intV]
          rw [e] at h
          exact h)
        have KK : Hid (Below w.heap.size w (w3.setCell ⟨g3, m, none⟩ (.int .i64 1))) := Lib.hid (HK3.out.setCell hb3 _)
        have EQ : Hid (Q = (ref.drop (i + 1)).foldl (fun q v => rst q (isIn succ v)) (I ++ [z], 1)) := Lib.hid (by rw [HE2.out, HCB.out]; rfl)
        have ST2 : Hid ((w3.setCell ⟨g3, m, none⟩ (.int .i64 1)).ownsRow w.heap.size 3 1 (.slice (some ⟨g3, 0, none⟩) (m + 1) d3) ((I ++ [z]).length + 1) (runV (I ++ [z], 1))) := Lib.hid (by rw [List.length_append, List.length_singleton, hm]; exact ST.out)
        clear own' hg3 hw3 C1 C3 C4 C5 OWN1 hx st3 hcb KA ST HCB HE2
        go_wp2_with fail
        go_roundw
        case rel => exact ⟨i + 1, (I ++ [z], 1), by go_num, by omega, by rw [List.length_append, List.length_singleton]; omega, by show 1 ≤ i + 1; omega, EQ.out, ST2.out, KK.out⟩
        case measure => simp [intOf]; omega
      | false =>
        obtain ⟨k, hk⟩ : ∃ k, I.length = k := ⟨_, rfl⟩
        obtain ⟨g3, d3, hv3, hd3, hb3, cell3, fz3, st3⟩ := own_idx HO.out k (by omega)
        injection hv3 with hv1 hvn hv2
        subst hv1 hv2
        have hx : (runV (I, z))[k]? = some (Value.int .i64 (z : Int)) := hk ▸ runV_last I z
        rw [hx] at cell3
        obtain ⟨z2, hz2⟩ : ∃ q, z + 1 = q := ⟨_, rfl⟩
        have hzI : (z : Int) + 1 = (z2 : Int) := by omega
        have EQ : Hid (Q = (ref.drop (i + 1)).foldl (fun q v => rst q (isIn succ v)) (I, z2)) := Lib.hid (by rw [HE2.out, HCB.out, ← hz2]; rfl)
        have ST2 : Hid ((wr.setCell ⟨g3, k, none⟩ (.int .i64 (z2 : Int))).ownsRow w.heap.size 3 1 (.slice (some ⟨g3, 0, none⟩) m d5) (I.length + 1) (runV (I, z2))) := Lib.hid (by
          have h := st3 (.int .i64 (z2 : Int))
          have e : (runV (I, z)).set k (Value.int .i64 (z2 : Int)) = runV (I, z2) := hk ▸ runV_set I z z2
          rw [e] at h
          rw [hm]
          exact h)
        have KK : Hid (Below w.heap.size w (wr.setCell ⟨g3, k, none⟩ (.int .i64 (z2 : Int)))) := Lib.hid (HK.out.setCell hb3 _)
        have mk : (m : Int) - 1 = (k : Int) := by omega
        have km : k < m := by omega
        have k9 : k ≤ 65536 := by have : I.length ≤ i := hq1; have : I.length = k := hk; omega
        have z9 : z ≤ 65536 := by omega
        clear hvn hx st3 hcb HCB HE2 hk hm hz2 HM
        go_wp2_with fail
        go_roundw
        case rel => exact ⟨i + 1, (I, z2), by go_num, by omega, by show I.length ≤ i + 1; omega, by show z2 ≤ i + 1; omega, EQ.out, ST2.out, KK.out⟩
        case measure => simp [intOf]; omega
    · have hin : i = n := by omega
      subst hin
      have i1 : decide ((i : Int) < (i : Int)) = false := decide_eq_false (by omega)
      have hQ : Q = (I, z) := by
        rw [HE.out, List.drop_eq_nil_of_le (by rw [HN.out]; exact Nat.le_refl _)]
        rfl
      subst hQ
      go_wp2_with fail
      go_ret
      exact ⟨_, rfl, HO.out, HK.out⟩
end Go.Proofs.YtflnpcgnenhogaaDoor.ls
namespace Go.Proofs.YtflnpcgnenhogaaDoor.ls
open Go.RowKit Go.Proofs.YtflnpcgnenhogaaDoor.own Go.Proofs.YtflnpcgnenhogaaDoor.bit

theorem Tryd.infoIntv : (Tryd.prog.info? 145).map (fun i => (i.zero, i.size, i.bytes)) = some (some (.agg #[.int .u32 0, .int .i64 0]), 2, 16) := by kernel_rfl
def piV (L : List (Nat × Nat)) : List Value := L.flatMap fun q => [.int .u32 (q.1 : Int), .int .i64 (q.2 : Int)]
theorem piV_snoc (L : List (Nat × Nat)) (q : Nat × Nat) : piV (L ++ [q]) = piV L ++ [.int .u32 (q.1 : Int), .int .i64 (q.2 : Int)] := by unfold piV; rw [List.flatMap_append]; rfl
theorem pi_one (a b : Int) : ∀ u ∈ [Value.int .u32 a, Value.int .i64 b], u.oneCell' = true := by intro u hu; simp at hu; rcases hu with rfl | rfl <;> rfl
/-- two rows of the call's own, apart -/
def RI2 (w : World) (L : List (Nat × Nat)) (v1 : Value) (R : List Nat) (v2 : Value) (W : World) : Prop :=
  Below w.heap.size w W ∧ W.ownsRow w.heap.size 145 2 v1 L.length (piV L) ∧ W.ownsRow w.heap.size 60 1 v2 R.length (u32V R) ∧ ∀ g, v1.ownBlock = some g → v2.ownBlock ≠ some g
theorem RI2.next {w W W2 : World} {L : List (Nat × Nat)} {R : List Nat} {v1 v2 : Value} (h : RI2 w L v1 R v2 W) (k : Below W.heap.size W W2) : RI2 w L v1 R v2 W2 :=
  ⟨h.1.trans (k.mono h.1.size), own_below h.2.1 k, own_below h.2.2.1 k, h.2.2.2⟩
theorem RI2.drewN {w W : World} {L : List (Nat × Nat)} {R : List Nat} {v1 v2 : Value} (h : RI2 w L v1 R v2 W) (n : Nat) : RI2 w L v1 R v2 (W.drewN n) := h.next ⟨rfl, rfl, rfl, Nat.le_refl _, fun _ _ => rfl⟩
theorem RI2.add1 {w W W2 : World} {L : List (Nat × Nat)} {R : List Nat} {v1 v2 v' : Value} (h : RI2 w L v1 R v2 W) (q : Nat × Nat) (own : W2.ownsRow w.heap.size 145 2 v' (L.length + 1) (piV L ++ [.int .u32 (q.1 : Int), .int .i64 (q.2 : Int)])) (hg : W.grownBy W2 v1.ownBlock)
    (hw : v'.ownBlock = v1.ownBlock ∨ v'.ownBlock = some W.heap.size) : RI2 w (L ++ [q]) v' R v2 W2 := by
  obtain ⟨hb, h1, h2, hne⟩ := h
  refine ⟨hb.grown hg hb.size (fun k hk => (h1.lt k hk).1), by rw [piV_snoc, List.length_append]; exact own, h2.kept hg ?_, fun g hgv => ?_⟩
  · rcases hv : v2.ownBlock with _ | b
    · exact .inl rfl
    · exact .inr (fun e2 => hne b e2.symm hv)
  · rcases hw with e | e
    · exact hne g (e ▸ hgv)
    · intro e2
      rw [e] at hgv
      injection hgv with hgv
      have := (h2.lt g e2).2
      omega
theorem RI2.add2 {w W W2 : World} {L : List (Nat × Nat)} {R : List Nat} {v1 v2 v' : Value} (h : RI2 w L v1 R v2 W) (l : List Nat) (m : Nat) (hm : l.length = m) (own : W2.ownsRow w.heap.size 60 1 v' (R.length + m) (u32V R ++ u32V l)) (hg : W.grownBy W2 v2.ownBlock)
    (hw : v'.ownBlock = v2.ownBlock ∨ v'.ownBlock = some W.heap.size) : RI2 w L v1 (R ++ l) v' W2 := by
  obtain ⟨hb, h1, h2, hne⟩ := h
  refine ⟨hb.grown hg hb.size (fun k hk => (h2.lt k hk).1), h1.kept hg ?_, by rw [u32V_append, List.length_append, hm]; exact own, fun g hgv => ?_⟩
  · rcases hv : v1.ownBlock with _ | b
    · exact .inl rfl
    · exact .inr (fun e2 => hne b hv e2.symm)
  · rcases hw with e | e
    · rw [e]; exact hne g hgv
    · intro e2
      rw [e] at e2
      injection e2 with e2
      have := (h1.lt g hgv).2
      omega


def IntvP (w : World) (q : List (Nat × Nat) × List Nat) (e : Ending) (w' : World) : Prop := ∃ v1 v2, e = .returned (.tuple #[v1, v2]) ∧ RI2 w q.1 v1 q.2 v2 w'
set_option maxRecDepth 100000 in
set_option maxHeartbeats 6400000 in
theorem intervals_any (w : World) (a : Option Addr) (l : List Nat) (cap least : Nat) (hcap : l.length ≤ cap) (hl : least ≤ 64) (h : LV w a l) (hr : Ris l) :
    Calls Tryd.prog 67 #[.slice a l.length cap, .int .i64 (least : Int)] w (IntvP w (rws least l)) := by
  obtain ⟨i0, hi, hz0, hz1, hz2⟩ := info_parts Tryd.infoIntv
  obtain ⟨j0, hj, hj0, hj1, hj2⟩ := info_parts Tryd.infoU32
  have hlen := hr.len
  have H0 : Hid (RI2 w [] (.slice none 0 0) [] (.slice none 0 0) w) := Lib.hid ⟨Below.refl _ _, World.ownsRow_nil _ _ _ _, World.ownsRow_nil _ _ _ _, fun g hg => by cases hg⟩
  have H := Lib.hid h
  have HR := Lib.hid hr
  obtain ⟨Q, hQ⟩ : ∃ Q, rws least l = Q := ⟨_, rfl⟩
  have HQ := Lib.hid hQ
  rw [hQ]
  obtain ⟨N, hN⟩ : ∃ N, l.length = N := ⟨_, rfl⟩
  have HN := Lib.hid hN
  rw [hN] at hcap hlen ⊢
  clear h hr hQ hN
  go_enter Tryd.func67, Tryd.ntmps67
  go_wp2_with fail
  go_loopw [6, 7, 8] (fun v1 v2 v8 wr => ∃ (i : Nat) (L : List (Nat × Nat)) (R : List Nat), v8 = .int .i64 (i : Int) ∧ i ≤ N ∧ Q = (L ++ (rws least (l.drop i)).1, R ++ (rws least (l.drop i)).2) ∧ L.length + R.length ≤ i ∧ RI2 w L v1 R v2 wr)
    (fun _ _ v8 _ => N - (intOf v8).toNat)
  case atStart => exact ⟨0, [], [], rfl, Nat.zero_le _, by rw [← HQ.out]; rfl, Nat.le_refl _, H0.out⟩
  case round =>
    obtain ⟨i, L, R, rfl, hiN, hQ, hbd, hW⟩ := hrel
    have HQ2 := Lib.hid hQ
    have HW := Lib.hid hW
    obtain ⟨s1, d1, rfl⟩ := own_shape hW.2.1
    obtain ⟨s2, d2, rfl⟩ := own_shape hW.2.2.1
    clear hQ hW
    by_cases hlt : i < N
    · have i0' : decide ((i : Int) < (N : Int)) = true := decide_eq_true (by omega)
      have hil : i < l.length := by rw [HN.out]; exact hlt
      have hdr := List.drop_eq_getElem_cons hil
      obtain ⟨a0, ha0⟩ : ∃ x, l[i] = x := ⟨_, rfl⟩
      obtain ⟨r, hrr⟩ : ∃ x, l.drop (i + 1) = x := ⟨_, rfl⟩
      rw [ha0, hrr] at hdr
      have HDR := Lib.hid hdr
      have hrl : r.length = N - (i + 1) := by rw [← hrr, List.length_drop, HN.out]
      have hRis : Ris (a0 :: r) := by rw [← hdr]; exact ⟨HR.out.1.sublist (List.drop_sublist _ _), fun v hv => HR.out.2 v (List.mem_of_mem_drop hv)⟩
      obtain ⟨g, o, rfl⟩ := H.out.addr (by omega)
      have HLV := Lib.hid (H.out.below HW.out.1)
      have hb0 := hRis.2 a0 (List.mem_cons_self ..)
      obtain ⟨K, hK⟩ : ∃ K, cons1 a0 r = K := ⟨_, rfl⟩
      have CS := Lib.hid (cons1_spec a0 r)
      have hKl : K ≤ r.length := by rw [← hK]; exact cons1_le a0 r
      rw [hK] at CS
      have RC := Lib.hid (rws_cons least a0 r)
      rw [hK, ← HDR.out] at RC
      have RD : Hid (r.drop K = l.drop (i + (K + 1))) := Lib.hid (by rw [← hrr, List.drop_drop, show i + 1 + K = i + (K + 1) by omega])
      rw [RD.out] at RC
      have RT : Hid (a0 :: r.take K = (l.drop i).take (K + 1)) := Lib.hid (by rw [HDR.out, List.take_succ_cons])
      rw [RT.out] at RC
      have c0 : wr.cell? ⟨g, o + i, none⟩ = some (.int .u32 (a0 : Int)) := by
        obtain ⟨g', o', e, h3, _⟩ := HLV.out.cellAt i hil
        injection e with e
        injection e with e1 e2
        subst e1 e2
        rw [h3, ha0]
      have CR : Hid (∀ k (h : k < r.length), wr.cell? ⟨g, o + (i + (k + 1)), none⟩ = some (.int .u32 (r[k] : Int)) ∧ r[k] < 65536) := Lib.hid (fun k h => by
        have hk2 : i + (k + 1) < l.length := by rw [HN.out]; omega
        obtain ⟨g', o', e, h3, _⟩ := HLV.out.cellAt (i + (k + 1)) hk2
        injection e with e
        injection e with e1 e2
        subst e1 e2
        have e5 : r[k] = l[i + (k + 1)] := by
          simp only [← hrr, List.getElem_drop]
          congr 1
          omega
        rw [h3, e5]
        exact ⟨rfl, HR.out.2 _ (List.getElem_mem _)⟩)
      clear ha0 hrr hdr hRis hK
      go_upto_block 2 with fail
      go_cut [9] from 14 to 37 (fun v9 wc => v9 = .int .i64 ((K + 1 : Nat) : Int) ∧ ∃ q, wc = wr.drewN q)
      case first =>
        go_wp2_with fail
        go_loopw [9] (fun v9 wc => ∃ k q : Nat, v9 = .int .i64 ((k + 1 : Nat) : Int) ∧ k ≤ K ∧ wc = wr.drewN q) (fun v9 _ => N + 1 - (intOf v9).toNat)
        case atStart => exact ⟨0, 0, rfl, Nat.zero_le _, rfl⟩
        case round =>
          rename_i wq
          obtain ⟨k, q, rfl, hk, rfl⟩ := hrel
          obtain ⟨kk, hkk⟩ : ∃ kk, k + 1 = kk := ⟨_, rfl⟩
          obtain ⟨ik, hik⟩ : ∃ ik, i + kk = ik := ⟨_, rfl⟩
          have hikI : (i : Int) + (kk : Int) = (ik : Int) := by omega
          rw [hkk]
          by_cases hlt2 : ik < N
          · have hkr : k < r.length := by omega
            obtain ⟨v, hv⟩ : ∃ v, r[k] = v := ⟨_, rfl⟩
            obtain ⟨c1, hvb⟩ := CR.out k hkr
            rw [hkk, hik] at c1
            rw [hv] at c1 hvb
            have HV := Lib.hid hv
            have i1 : decide ((ik : Int) < (N : Int)) = true := decide_eq_true (by omega)
            have w1 : IntKind.u32.wrap (kk : Int) = (kk : Int) := by rw [IntKind.wrap_u32]; omega
            have w2 : IntKind.u32.wrap ((a0 : Int) + (kk : Int)) = ((a0 + kk : Nat) : Int) := by rw [IntKind.wrap_u32]; omega
            have w3 : IntKind.i64.wrap ((kk : Int) + 1) = ((kk + 1 : Nat) : Int) := by rw [IntWalk.i64_in _ (by omega)]; omega
            have i2 : (ik : Int) < (N : Int) := by omega
            have i3 : (0 : Int) ≤ (ik : Int) := by omega
            have i4 : (0 : Int) ≤ (i : Int) := by omega
            have i5 : (i : Int) < (N : Int) := by omega
            by_cases he : v = a0 + kk
            · have hKK : k < K := by
                rcases Nat.lt_or_ge k K with h | h
                · exact h
                · obtain rfl : k = K := by omega
                  exact absurd (by omega) (CS.out.2 hkr)
              have b1 : ((v : Int) == ((a0 + kk : Nat) : Int)) = true := by rw [he]; simp
              clear he hv hik
              go_upto_region 6 with fail
              go_quiet (fail)
              go_wp2_with fail
              go_roundw
              case rel => exact ⟨k + 1, _, by rw [hkk]; go_num, hKK, (by first | rfl | exact drewN_add _ _ _)⟩
              case measure => simp [intOf]; omega
            · have hKK : k = K := by
                rcases Nat.lt_or_ge k K with h | h
                · exfalso
                  have h1 := CS.out.1
                  have h2 : (r.take K)[k]'(by rw [List.length_take]; omega) = (List.range' (a0 + 1) K)[k]'(by rw [List.length_range']; exact h) := by simp only [h1]
                  rw [List.getElem_take, List.getElem_range'] at h2
                  omega
                · omega
              have b1 : ((v : Int) == ((a0 + kk : Nat) : Int)) = false := beq_eq_false_iff_ne.2 (by omega)
              clear he hv hik
              go_upto_region 6 with fail
              go_quiet (fail)
              go_wp2_with fail
              go_meet
              case rel => exact ⟨by rw [← hkk, hKK], _, (by first | rfl | exact drewN_add _ _ _)⟩
          · have i1 : decide ((ik : Int) < (N : Int)) = false := decide_eq_false (by omega)
            have hKK : k = K := by omega
            clear hik
            go_upto_region 6 with fail
            go_quiet (fail)
            go_wp2_with fail
            go_meet
            case rel => exact ⟨by rw [← hkk, hKK], _, (by first | rfl | exact drewN_add _ _ _)⟩
      case rest =>
        obtain ⟨rfl, q, rfl⟩ := hcut
        have hw0 := HW.out.drewN q
        have HLV0 := Lib.hid (HLV.out.below (w' := wr.drewN q) ⟨rfl, rfl, rfl, Nat.le_refl _, fun _ _ => rfl⟩)
        have c0' : (wr.drewN q).cell? ⟨g, o + i, none⟩ = some (.int .u32 (a0 : Int)) := c0
        generalize wr.drewN q = W0 at hw0 HLV0 c0' ⊢
        have HW0 := Lib.hid hw0
        clear c0 HW HLV hw0 CR
        obtain ⟨n, hn⟩ : ∃ n, K + 1 = n := ⟨_, rfl⟩
        have hn1 : 1 ≤ n := by omega
        have hnN : i + n ≤ N := by omega
        rw [hn] at RC RD RT ⊢
        have HNK := Lib.hid hn
        obtain ⟨j, hj9⟩ : ∃ j, i + n = j := ⟨_, rfl⟩
        have hjI : (i : Int) + (n : Int) = (j : Int) := by omega
        have HJ := Lib.hid hj9
        rw [hj9] at RC
        clear hn hj9
        by_cases hc : 0 < least ∧ least ≤ n
        · have RC2 := RC.out
          rw [if_pos hc] at RC2
          have RC3 := Lib.hid RC2
          have j1 : decide ((0 : Int) < (least : Int)) = true := decide_eq_true (by omega)
          have j2 : decide ((least : Int) ≤ (n : Int)) = true := decide_eq_true (by omega)
          have j2n : decide (least ≤ n) = true := decide_eq_true hc.2
          clear RC RC2
          have OWN1 := Lib.hid (HW0.out.2.1.alloc (.cells #[.int .u32 (a0 : Int), .int .i64 (n : Int)] 145))
          have C1 : Hid (∀ j u, ([Value.int .u32 (a0 : Int), .int .i64 (n : Int)] : List Value)[j]? = some u → (W0.alloc (.cells #[.int .u32 (a0 : Int), .int .i64 (n : Int)] 145)).cell? ((⟨W0.heap.size, 0, none⟩ : Addr).add j) = some u) := Lib.hid (fun j u hu => by
            rw [Addr.add_lit, cell_of_row _ _ _ _ _ _ (heap_alloc_new _ _), Nat.zero_add]; simpa using hu)
          have C3 : Hid (L.length + 1 ≤ maxLen) := Lib.hid (by simp only [maxLen]; omega)
          have C4 : Hid ((L.length + 1) * 16 ≤ 140737488355328) := Lib.hid (by omega)
          have C5 : Hid (w.heap.size ≤ (W0.alloc (.cells #[.int .u32 (a0 : Int), .int .i64 (n : Int)] 145)).heap.size) := Lib.hid (by have := HW0.out.1.size; simp; omega)
          go_wp2_with (at_builtin; refine wpList_append_at _ rfl _ _ 140 rfl w.heap.size 145 i0 _ 2 16 Tryd.underlying140 hi hz0 hz1 hz2 rfl (by decide) _ L.length _ rfl OWN1.out ⟨W0.heap.size, 0, none⟩ 1 1 [.int .u32 (a0 : Int), .int .i64 (n : Int)] rfl rfl C1.out (pi_one _ _) C3.out C4.out C5.out (by decide) ?_)
          intro v' w' own' hg hw
          have HA : Hid (RI2 w (L ++ [(a0, n)]) v' R (.slice s2 R.length d2) w') := Lib.hid ((HW0.out.next ((Below.refl _ _).alloc (Nat.le_refl _) _)).add1 (a0, n) own' hg (by simpa using hw))
          obtain ⟨av, dv, rfl⟩ := own_shape own'
          clear own' hg hw C1 C3 C4 C5 OWN1
          go_wp2_with fail
          go_roundw
          case rel => exact ⟨j, L ++ [(a0, n)], R, rfl, by omega, by rw [HQ2.out, RC3.out, List.append_assoc]; rfl, by rw [List.length_append, List.length_singleton]; omega, HA.out⟩
          case measure => simp [intOf]; omega
        · have RC2 := RC.out
          rw [if_neg hc] at RC2
          have RC3 := Lib.hid RC2
          have TL : Hid (((l.drop i).take n).length = j - i) := Lib.hid (by rw [List.length_take, List.length_drop, HN.out]; omega)
          have LVT : Hid (LV W0 (some ⟨g, o + i, none⟩) ((l.drop i).take n)) := Lib.hid ((HLV0.out.drop i).take n)
          have C3 : Hid (R.length + (j - i) ≤ maxLen) := Lib.hid (by simp only [maxLen]; omega)
          have C4 : Hid ((R.length + (j - i)) * 4 ≤ 140737488355328) := Lib.hid (by omega)
          have hci : ¬ cap = i := by omega
          have hci2 : (cap = i) = False := eq_false hci
          clear RC RC2
          by_cases hl0 : 0 < least
          · have j1 : decide ((0 : Int) < (least : Int)) = true := decide_eq_true (by omega)
            have j2 : decide ((least : Int) ≤ (n : Int)) = false := decide_eq_false (by omega)
            have j2n : decide (least ≤ n) = false := decide_eq_false (by omega)
            clear hc hci
            go_wp2_with (at_builtin; refine wpList_append_lv _ rfl _ _ 29 rfl w.heap.size 60 j0 _ 4 Tryd.underlying29 hj hj0 hj1 hj2 rfl _ R.length _ rfl HW0.out.2.2.1 (some ⟨g, o + i, none⟩) (j - i) (cap - i) ((l.drop i).take n) rfl TL.out LVT.out C3.out C4.out HW0.out.1.size ?_)
            intro v' w' own' hg hw
            have HA : Hid (RI2 w L (.slice s1 L.length d1) (R ++ (l.drop i).take n) v' w') := Lib.hid (HW0.out.add2 ((l.drop i).take n) (j - i) TL.out own' hg hw)
            obtain ⟨av, dv, rfl⟩ := own_shape own'
            clear own' hg hw C3 C4
            go_wp2_with fail
            go_roundw
            case rel => exact ⟨j, L, R ++ (l.drop i).take n, rfl, by omega, by rw [HQ2.out, RC3.out, List.append_assoc], by rw [List.length_append, TL.out]; omega, HA.out⟩
            case measure => simp [intOf]; omega
          · have j1 : decide ((0 : Int) < (least : Int)) = false := decide_eq_false (by omega)
            clear hc hci
            go_wp2_with (at_builtin; refine wpList_append_lv _ rfl _ _ 29 rfl w.heap.size 60 j0 _ 4 Tryd.underlying29 hj hj0 hj1 hj2 rfl _ R.length _ rfl HW0.out.2.2.1 (some ⟨g, o + i, none⟩) (j - i) (cap - i) ((l.drop i).take n) rfl TL.out LVT.out C3.out C4.out HW0.out.1.size ?_)
            intro v' w' own' hg hw
            have HA : Hid (RI2 w L (.slice s1 L.length d1) (R ++ (l.drop i).take n) v' w') := Lib.hid (HW0.out.add2 ((l.drop i).take n) (j - i) TL.out own' hg hw)
            obtain ⟨av, dv, rfl⟩ := own_shape own'
            clear own' hg hw C3 C4
            go_wp2_with fail
            go_roundw
            case rel => exact ⟨j, L, R ++ (l.drop i).take n, rfl, by omega, by rw [HQ2.out, RC3.out, List.append_assoc], by rw [List.length_append, TL.out]; omega, HA.out⟩
            case measure => simp [intOf]; omega
    · have hin : i = N := by omega
      subst hin
      have i1 : decide ((i : Int) < (i : Int)) = false := decide_eq_false (by omega)
      have FIN : Hid (Q = (L, R)) := Lib.hid (by rw [HQ2.out, List.drop_eq_nil_of_le (by rw [HN.out]; exact Nat.le_refl _), rws_nil, List.append_nil, List.append_nil])
      go_wp2_with fail
      go_ret2
      rw [FIN.out]
      exact ⟨_, _, rfl, HW.out⟩
end Go.Proofs.YtflnpcgnenhogaaDoor.ls
namespace Go.Proofs.YtflnpcgnenhogaaDoor.bit
open Go.RowKit Go.Proofs.YtflnpcgnenhogaaDoor.own

theorem wp_append_row {P : Program} (w : World) {o : Oper} {a : Act} {K : Act → World → Prop} {Q : Exit → Act → World → Prop} {c : Bool} {E : Prop} (hc : c = true) (s x : Operand) (t : TypeId)
    (ho : o.op = .call { callee := .builtin .append, args := #[s, x], argTypes := #[t, t] })
    (base base' : Nat) (e : TypeId) (i : TypeInfo) (z : Value) (bytes : Nat) (ht : P.underlying t = some (.slice e)) (hi : P.info? e = some i) (hz : i.zero = some z)
    (hsize : i.size = 1) (hby : i.bytes = bytes) (hzs : z.cells.size = 1)
    (v : Value) (n : Nat) (xs : List Value) (hs : a.eval s = v) (hown : w.ownsRow base e 1 v n xs) (u : Value) (m : Nat) (ys : List Value) (hx : a.eval x = u) (hsrc : w.ownsRow base' e 1 u m ys) (h1 : ∀ y ∈ ys, y.oneCell' = true)
    (h63 : n + m ≤ maxLen) (hbytes : (n + m) * bytes ≤ 140737488355328) (hbase : base ≤ w.heap.size)
    (h : ∀ v' w', w'.ownsRow base e 1 v' (n + m) (xs ++ ys) → w.grownBy w' v.ownBlock → (v'.ownBlock = v.ownBlock ∨ v'.ownBlock = some w.heap.size) → K (a.put o.dst v') w') :
    if c = true then Oper.wp P o a w K Q else E := by
  rw [if_pos hc]
  obtain ⟨v', w', hr, h2, h3, h4⟩ := run_append_row (P := P) w base base' t o.type e i z bytes ht hi hz hsize hby hzs v n xs hown u m ys hsrc h1 h63 hbytes hbase
  unfold Oper.wp execOp
  simp only [ho, resolve, invoke, builtin, Sem.run_bind, Sem.run_pure, Result.andThen_ok, List.map_toArray, List.map_cons, List.map_nil, hs, hx, hr]
  exact h v' w' h2 h3 h4

def DW (x : Nat → Nat) (c : Nat) (w : World) (wb : Nat) (l : Bits) : Prop :=
  ∃ v, w.heap[wb]? = some (.cells #[v] 28 (0, 0)) ∧ x wb = c ∧ w.ownsRow 0 4 1 v l.length (bls l) ∧
    (∀ g, v.ownBlock = some g → x g = c ∧ g ≠ wb) ∧ l.length ≤ 134217728
theorem DW.frame {x x' : Nat → Nat} {C : Nat → Prop} {c : Nat} {w w' : World} {wb : Nat} {l : Bits} (h : DW x c w wb l) (hf : Fr x x' C w w') (hC : ¬ C c) : DW x' c w' wb l := by
  obtain ⟨v, h0, hx, ho, hg, hl⟩ := h
  have hlt := lt_of_block h0
  refine ⟨v, (hf.old wb hlt (by rw [hx]; exact hC)).trans h0, by rw [hf.col wb hlt]; exact hx, ⟨ho.1, ?_⟩, fun g e => ?_, hl⟩
  · rcases ho.2 with h2 | ⟨g, cap, cur, hv, hb, hcell, r⟩
    · exact .inl h2
    · have he : v.ownBlock = some g := by rw [hv]; rfl
      exact .inr ⟨g, cap, cur, hv, hb, (hf.old g (lt_of_block hcell) (by rw [(hg g he).1]; exact hC)).trans hcell, r⟩
  · have := ho.lt g e
    exact ⟨by rw [hf.col g this.2]; exact (hg g e).1, (hg g e).2⟩
theorem DW.below {x : Nat → Nat} {c : Nat} {w w' : World} {wb : Nat} {l : Bits} (h : DW x c w wb l) (hb : Below w.heap.size w w') : DW (paint x w.heap.size c) c w' wb l := by
  obtain ⟨v, h0, hx, ho, hg, hl⟩ := h
  have hlt := lt_of_block h0
  refine ⟨v, (hb.block wb hlt).trans h0, by rw [paint_old hlt]; exact hx, own_below ho hb, fun g e => ?_, hl⟩
  have := ho.lt g e
  exact ⟨by rw [paint_old this.2]; exact (hg g e).1, (hg g e).2⟩
end Go.Proofs.YtflnpcgnenhogaaDoor.bit
namespace Go.Proofs.YtflnpcgnenhogaaDoor.ls
open Go.RowKit Go.Proofs.YtflnpcgnenhogaaDoor.own Go.Proofs.YtflnpcgnenhogaaDoor.bit

/-- a row of the call's own, and blocks beside it that stand still -/
def LG (T : TypeId) (sz : Nat) (w0 : World) (ks : List (Nat × Obj)) (n : Nat) (xs : List Value) (v : Value) (W : World) : Prop :=
  Below w0.heap.size w0 W ∧ W.ownsRow w0.heap.size T sz v n xs ∧ ∀ p ∈ ks, W.heap[p.1]? = some p.2 ∧ some p.1 ≠ v.ownBlock
section
variable {T : TypeId} {sz : Nat} {w0 W : World} {ks : List (Nat × Obj)} {n : Nat} {xs : List Value} {v : Value}
theorem LG.next (h : LG T sz w0 ks n xs v W) {W' : World} (k : Below W.heap.size W W') : LG T sz w0 ks n xs v W' :=
  ⟨h.1.trans (k.mono h.1.size), own_below h.2.1 k, fun p hp => ⟨(k.block _ (lt_of_block (h.2.2 p hp).1)).trans (h.2.2 p hp).1, (h.2.2 p hp).2⟩⟩
theorem LG.drew (h : LG T sz w0 ks n xs v W) : LG T sz w0 ks n xs v W.drew := h.next (Below.drew (Below.refl _ _))
theorem LG.row (h : LG T sz w0 ks n xs v W) {b : Nat} {o : Obj} (hm : (b, o) ∈ ks) : W.heap[b]? = some o := (h.2.2 _ hm).1
theorem LG.sub (h : LG T sz w0 ks n xs v W) {ks' : List (Nat × Obj)} (hs : ∀ p ∈ ks', p ∈ ks) : LG T sz w0 ks' n xs v W := ⟨h.1, h.2.1, fun p hp => h.2.2 p (hs p hp)⟩
theorem LG.keep (h : LG T sz w0 ks n xs v W) (row : Array Value) (U : TypeId) : LG T sz w0 ((W.heap.size, .cells row U (0, 0)) :: ks) n xs v (W.alloc (.cells row U)) := by
  have k : Below W.heap.size W (W.alloc (.cells row U)) := (Below.refl _ _).alloc (Nat.le_refl _) _
  obtain ⟨h1, h2, h3⟩ := h.next k
  refine ⟨h1, h2, fun p hp => ?_⟩
  rcases List.mem_cons.1 hp with rfl | hp
  · exact ⟨heap_alloc_new W _, fun e => by have := (h.2.1.lt _ e.symm).2; exact absurd this (Nat.lt_irrefl _)⟩
  · exact h3 p hp
/-- a block that stands there beside -/
theorem LG.with (h : LG T sz w0 ks n xs v W) {b : Nat} {o : Obj} (hb : W.heap[b]? = some o) (hne : some b ≠ v.ownBlock) : LG T sz w0 ((b, o) :: ks) n xs v W := by
  refine ⟨h.1, h.2.1, fun p hp => ?_⟩
  rcases List.mem_cons.1 hp with rfl | hp
  · exact ⟨hb, hne⟩
  · exact h.2.2 p hp
theorem LG.grow (h : LG T sz w0 ks n xs v W) {W2 : World} {v' : Value} {n' : Nat} {xs' : List Value} (own : W2.ownsRow w0.heap.size T sz v' n' xs') (hg : W.grownBy W2 v.ownBlock) (hw : v'.ownBlock = v.ownBlock ∨ v'.ownBlock = some W.heap.size) : LG T sz w0 ks n' xs' v' W2 := by
  obtain ⟨h1, h2, h3⟩ := h
  refine ⟨h1.grown hg h1.size (fun k hk => (h2.lt k hk).1), own, fun p hp => ?_⟩
  obtain ⟨h4, h5⟩ := h3 p hp
  refine ⟨(hg.block _ (lt_of_block h4) h5).trans h4, fun e => ?_⟩
  rcases hw with h | h
  · exact h5 (e.trans h)
  · rw [h] at e
    injection e with e
    have := lt_of_block h4
    omega
end
/-- the bits so far -/
def LO (w0 : World) (ks : List (Nat × Obj)) (out : Bits) (v : Value) (W : World) : Prop := LG 4 1 w0 ks out.length (bls out) v W
theorem LO.grow {w0 W : World} {ks : List (Nat × Obj)} {out : Bits} {v : Value} (h : LO w0 ks out v W) {W2 : World} {v' : Value} (bs : Bits) (m : Nat) (hm : bs.length = m) (own : W2.ownsRow w0.heap.size 4 1 v' (out.length + m) (bls out ++ bls bs)) (hg : W.grownBy W2 v.ownBlock) (hw : v'.ownBlock = v.ownBlock ∨ v'.ownBlock = some W.heap.size) : LO w0 ks (out ++ bs) v' W2 := by
  refine LG.grow h ?_ hg hw
  rw [List.length_append, hm, ← bls_append]
  exact own

/-! ### Zig, zig, Bits, gamma -/
set_option maxRecDepth 100000 in
theorem dZig_any (z : Int) (h1 : -1000000 ≤ z) (h2 : z ≤ 1000000) (w : World) : Calls Tryd.prog 90 #[.int .i64 z] w fun e w' => e = .returned (.int .u64 ((zig z : Nat) : Int)) ∧ w = w' := by
  obtain ⟨k, hk⟩ : ∃ k, zig z = k := ⟨_, rfl⟩
  rw [hk]
  by_cases h0 : 0 ≤ z
  · obtain ⟨n, rfl⟩ : ∃ n : Nat, z = (n : Int) := ⟨z.toNat, by omega⟩
    have e : 2 * (n : Int) = (k : Int) := by unfold zig at hk; rw [if_pos h0] at hk; omega
    have i1 : decide ((0 : Int) ≤ (n : Int)) = true := decide_eq_true h0
    clear hk h0 h1
    go_enter Tryd.func90, Tryd.ntmps90
    go_wp2_with fail
    go_ret
    exact ⟨rfl, rfl⟩
  · obtain ⟨n, hn⟩ : ∃ n : Nat, -(z + 1) = (n : Int) := ⟨(-(z + 1)).toNat, by omega⟩
    have e : 2 * (n : Int) + 1 = (k : Int) := by unfold zig at hk; rw [if_neg h0] at hk; omega
    have i1 : decide ((0 : Int) ≤ z) = false := decide_eq_false h0
    have n9 : n ≤ 1000000 := by omega
    clear hk
    go_enter Tryd.func90, Tryd.ntmps90
    go_wp2_with fail
    go_ret
    exact ⟨rfl, rfl⟩
set_option maxRecDepth 100000 in
theorem dzig_any (v x : Nat) (hv : v < 65536) (hx : x < 65536) (w : World) : Calls Tryd.prog 68 #[.int .u32 (v : Int), .int .i64 (x : Int)] w fun e w' => e = .returned (.int .i64 ((zig ((v : Int) - x) : Nat) : Int)) ∧ w = w' := by
  have ZG := Lib.hid (fun W => dZig_any ((v : Int) - (x : Int)) (by omega) (by omega) W)
  have hz := zig_lt2 (v := v) (x := x) hv hx
  obtain ⟨k, hk⟩ : ∃ k, zig ((v : Int) - x) = k := ⟨_, rfl⟩
  rw [hk] at ZG hz ⊢
  clear hk
  go_enter Tryd.func68, Tryd.ntmps68
  go_wp2_with fail
  with_reducible refine (ZG.out _).mono ?_
  rintro e w2 ⟨rfl, rfl⟩
  go_wp2_with fail
  go_ret
  exact ⟨rfl, rfl⟩
/-- two rows of a call's own, the second laid behind the first -/
theorem below_app {w W W3 : World} {vu v3 : Value} {A B : Bits} {a b : Nat} (kk : Below w.heap.size w W) (pu : W.ownsRow w.heap.size 4 1 vu a (bls A)) (own3 : W3.ownsRow w.heap.size 4 1 v3 (a + b) (bls A ++ bls B)) (hg3 : W.grownBy W3 vu.ownBlock) (hl : (A ++ B).length = a + b) : RowPost (A ++ B) w (.returned v3) W3 :=
  ⟨v3, rfl, by rw [hl, ← bls_append]; exact own3, kk.grown hg3 kk.size (fun k hk => (pu.lt k hk).1)⟩
set_option maxRecDepth 100000 in
set_option maxHeartbeats 3200000 in
theorem dbits_gam (v : Nat) (hv : v ≤ 1000000) (w : World) : Calls Tryd.prog 64 #[.agg #[.int .u8 1, .int .u64 0], .int .u64 (v : Int)] w (RowPost (cb .gam v) w) := by
  obtain ⟨i0, hi, hz0, hz1, hz2⟩ := info_parts Tryd.infoBool
  have LOW := Lib.hid (fun W => low_any (v + 1) (by omega) (by omega) W)
  have hlog : Nat.log2 (v + 1) < 20 := log_lt (by rw [show (2 : Nat) ^ 20 = 1048576 from rfl]; omega)
  have h1 := Nat.log2_self_le (n := v + 1) (by omega)
  have HC : Hid (cb .gam v = un (Nat.log2 (v + 1)) ++ ofN (Nat.log2 (v + 1)) (v + 1 - 2 ^ Nat.log2 (v + 1))) := Lib.hid (cb_gam v)
  obtain ⟨b, hb⟩ : ∃ b, Nat.log2 (v + 1) = b := ⟨_, rfl⟩
  obtain ⟨n, hn⟩ : ∃ n, v + 1 = n := ⟨_, rfl⟩
  rw [hb, hn] at HC
  rw [hn] at LOW h1
  rw [hn] at hb
  rw [hb] at LOW h1
  obtain ⟨q, hq⟩ : ∃ q, 2 ^ b = q := ⟨_, rfl⟩
  rw [hq] at HC h1
  have hb20 : b < 20 := by rw [← hb, ← hn]; exact hlog
  have hnI : (v : Int) + 1 = (n : Int) := by omega
  obtain ⟨d, hd⟩ : ∃ d, n - q = d := ⟨_, rfl⟩
  rw [hd] at HC
  have e3 := u64_pow b q hq (by omega)
  have e4 := u64_sub n q h1 (by omega)
  rw [hd] at e4
  have d9 : d ≤ 1000001 := by omega
  have UN := Lib.hid (fun W => unary_any b (by omega) W)
  have OF := Lib.hid (fun W => Of_any b d (by omega) (by omega) W)
  have wbb : IntKind.u64.wrap (b : Int) = (b : Int) := IntWalk.u64_in _ (by omega)
  clear hlog hb hn hq hd h1
  go_enter Tryd.func64, Tryd.ntmps64
  go_wp2_with fail
  with_reducible refine (LOW.out _).mono ?_
  rintro e w2 ⟨rfl, rfl⟩
  go_upto_region 7 with fail
  have kk : Below w.heap.size w (w.alloc (.cells #[.int .u8 1, .int .u64 0] 137)) := (Below.refl _ _).alloc (Nat.le_refl _) _
  generalize World.alloc w _ = W1 at kk ⊢
  have kk := Below.drew kk
  go_region_law (first
      | (go_simp; go_at_call 87; (try rw [wbb]); (with_reducible refine (UN.out _).mono ?_); rintro e w2 ⟨v2, rfl, o2, k2⟩; have pu := own_base o2 kk.size; (try have po := own_below po k2); have kk := kk.trans (k2.mono kk.size); clear o2 k2; rw [un_length] at pu; dsimp only)
      | (go_simp; go_at_call 88; (try rw [wbb]); (with_reducible refine (OF.out _).mono ?_); rintro e w2 ⟨v2, rfl, o2, k2⟩; have po := own_base o2 kk.size; (try have pu := own_below pu k2); have kk := kk.trans (k2.mono kk.size); clear o2 k2; rw [ofN_length] at po; dsimp only)
      | (refine wp_append_row _ (by rfl) (.tmp 24) (.tmp 30) 26 rfl w.heap.size w.heap.size 4 i0 (.bool false) 1 Tryd.underlying26 hi hz0 hz1 hz2 rfl _ _ _ rfl pu _ _ _ rfl po (bls_one _) (by simp only [maxLen]; omega) (by omega) kk.size ?_; intro v3 w3 own3 hg3 hw3; have U3 := Lib.hid (below_app kk pu own3 hg3 (by rw [List.length_append, un_length, ofN_length])); obtain ⟨a3, cap3, rfl⟩ := own_shape own3; clear own3 hg3 hw3))
  all_goals
    go_wp2_with fail
    go_ret
    rw [HC.out]
    exact U3.out
set_option maxRecDepth 100000 in
theorem dbits_una (v : Nat) (hv : v ≤ 65535) (w : World) : Calls Tryd.prog 64 #[.agg #[.int .u8 0, .int .u64 0], .int .u64 (v : Int)] w (RowPost (cb .una v) w) := by
  have LOW := Lib.hid (fun W => low_any (v + 1) (by omega) (by omega) W)
  have hlog : Nat.log2 (v + 1) < 20 := log_lt (by rw [show (2 : Nat) ^ 20 = 1048576 from rfl]; omega)
  obtain ⟨b, hb⟩ : ∃ b, Nat.log2 (v + 1) = b := ⟨_, rfl⟩
  obtain ⟨n, hn⟩ : ∃ n, v + 1 = n := ⟨_, rfl⟩
  rw [hn] at LOW hb hlog
  rw [hb] at LOW hlog
  have hnI : (v : Int) + 1 = (n : Int) := by omega
  have UN := Lib.hid (fun W => unary_any v hv W)
  rw [cb_una]
  clear hb hn
  go_enter Tryd.func64, Tryd.ntmps64
  go_wp2_with fail
  with_reducible refine (LOW.out _).mono ?_
  rintro e w2 ⟨rfl, rfl⟩
  go_wp2_with fail
  with_reducible refine (UN.out _).mono ?_
  rintro e w2 ⟨v2, rfl, o2, k2⟩
  have kk : Below w.heap.size w (w.alloc (.cells #[.int .u8 0, .int .u64 0] 137)) := (Below.refl _ _).alloc (Nat.le_refl _) _
  have pu := own_base o2 kk.size
  have kk := kk.trans (k2.mono kk.size)
  clear o2 k2
  go_wp2_with fail
  go_ret
  exact ⟨_, rfl, pu, kk⟩
set_option maxRecDepth 100000 in
set_option maxHeartbeats 3200000 in
theorem dbits_zet (k v : Nat) (hk1 : 1 ≤ k) (hk2 : k ≤ 16) (hv : v ≤ 1000000) (w : World) : Calls Tryd.prog 64 #[.agg #[.int .u8 3, .int .u64 (k : Int)], .int .u64 (v : Int)] w (RowPost (cb (.zet k) v) w) := by
  obtain ⟨i0, hi, hz0, hz1, hz2⟩ := info_parts Tryd.infoBool
  have LOW := Lib.hid (fun W => low_any (v + 1) (by omega) (by omega) W)
  have hlog : Nat.log2 (v + 1) < 20 := log_lt (by rw [show (2 : Nat) ^ 20 = 1048576 from rfl]; omega)
  obtain ⟨p1, p2⟩ := zet_parts k v hk1
  have HC := Lib.hid (cb_zet k v)
  obtain ⟨b, hb⟩ : ∃ b, Nat.log2 (v + 1) = b := ⟨_, rfl⟩
  obtain ⟨n, hn⟩ : ∃ n, v + 1 = n := ⟨_, rfl⟩
  rw [hb, hn] at HC p1 p2
  rw [hn] at LOW hb hlog
  rw [hb] at LOW hlog
  have hnI : (v : Int) + 1 = (n : Int) := by omega
  obtain ⟨h, hh⟩ : ∃ h, b / k = h := ⟨_, rfl⟩
  rw [hh] at p1 p2 HC
  have hhk : h * k ≤ b := by rw [← hh]; exact Nat.div_mul_le_self b k
  have hhb : h ≤ b := by rw [← hh]; exact Nat.div_le_self b k
  obtain ⟨m, hm⟩ : ∃ m, h * k = m := ⟨_, rfl⟩
  have hm1 : (h + 1) * k = m + k := by rw [Nat.add_mul, hm, Nat.one_mul]
  rw [hm1, hm] at p1 HC
  rw [hm] at p2 hhk
  have g1 : m + k ≤ 62 := by clear p1 p2 HC LOW; omega
  have g2 : m ≤ 62 := by clear p1 p2 HC LOW; omega
  have g3 : h ≤ 9223372036854775806 := by clear p1 p2 HC LOW; omega
  have g4 : h ≤ 65535 := by clear p1 p2 HC LOW; omega
  have g5 : n ≤ 9223372036854775808 := by clear p1 p2 HC LOW; omega
  have g6 : k ≤ 9223372036854775807 := by clear p1 p2 HC LOW; omega
  have hh20 : h < 20 := by clear p1 p2 HC LOW; omega
  obtain ⟨fr, hfr⟩ : ∃ fr, 2 ^ m = fr := ⟨_, rfl⟩
  obtain ⟨tt, htt⟩ : ∃ tt, 2 ^ (m + k) = tt := ⟨_, rfl⟩
  have htt2 : tt ≤ 9223372036854775808 := htt ▸ pow63 (Nat.le_trans g1 (by decide))
  have hcl : clog (tt - fr) ≤ 62 := clog_pow (Nat.le_trans (Nat.sub_le _ _) (htt ▸ Nat.pow_le_pow_right (by decide) g1))
  have hfr2 : fr ≤ tt := by rw [← hfr, ← htt]; exact Nat.pow_le_pow_right (by decide) (Nat.le_add_right _ _)
  rw [hfr, htt] at p1 HC
  rw [hfr] at p2
  have ML : (mini (n - fr) (tt - fr)).length ≤ 62 := Nat.le_trans (mini_le _ _) hcl
  have UN := Lib.hid (fun W => unary_any h g4 W)
  have MN := Lib.hid (fun W => minimal_any (n - fr) (tt - fr) (Nat.lt_of_le_of_lt (Nat.zero_le _) p1) hcl p1 W)
  obtain ⟨M, hM⟩ : ∃ M, mini (n - fr) (tt - fr) = M := ⟨_, rfl⟩
  rw [hM] at ML MN HC
  have f0 := w64_nat k g6
  have f0' := i64_nat k g6
  have f1 := quo_nat b k h hh
  have f2 := int_nz k hk1
  have f3 := i64_mul h k m hm (Nat.le_trans g2 (by decide))
  have f3' : IntKind.i64.wrap (((h : Int) + 1) * (k : Int)) = ((m + k : Nat) : Int) := i64_mul (h + 1) k (m + k) hm1 (Nat.le_trans g1 (by decide))
  have f5 := u64_pow m fr hfr (Nat.le_trans hfr2 htt2)
  have f8 := u64_pow (m + k) tt htt htt2
  have f6 := u64_sub n fr p2 g5
  have f9 := u64_sub tt fr hfr2 htt2
  have f10 := i64_nat h (Nat.le_succ_of_le g3)
  have f10' : IntKind.i64.wrap ((h : Int) + 1) = ((h + 1 : Nat) : Int) := i64_nat (h + 1) (Nat.succ_le_succ g3)
  have f12 : IntKind.u64.wrap (h : Int) = (h : Int) := IntWalk.u64_in _ ⟨Int.natCast_nonneg h, Int.le_trans (Int.ofNat_le.2 g4) (by decide)⟩
  clear hb hn p1 p2 hh hhk hhb hm hm1 hfr htt hcl hM htt2 hfr2 g3 g4 g5 g6 hlog
  go_enter Tryd.func64, Tryd.ntmps64
  go_wp2_with fail
  with_reducible refine (LOW.out _).mono ?_
  rintro e w2 ⟨rfl, rfl⟩
  go_wp2_with fail
  rw [f8]
  with_reducible refine (UN.out _).mono ?_
  rintro e w2 ⟨v2, rfl, o2, k2⟩
  have kk : Below w.heap.size w (w.alloc (.cells #[.int .u8 3, .int .u64 (k : Int)] 137)) := (Below.refl _ _).alloc (Nat.le_refl _) _
  have pu := own_base o2 kk.size
  have kk := kk.trans (k2.mono kk.size)
  clear o2 k2
  rw [un_length] at pu
  go_wp2_with fail
  with_reducible refine (MN.out _).mono ?_
  rintro e w3 ⟨v3, rfl, o3, k3⟩
  have po := own_base o3 kk.size
  have pu := own_below pu k3
  have kk := kk.trans (k3.mono kk.size)
  clear o3 k3
  have C3 : h + 1 + M.length ≤ maxLen := by simp only [maxLen]; omega
  have C4 : (h + 1 + M.length) * 1 ≤ 140737488355328 := by omega
  go_wp2_with (at_builtin; refine wpList_append_row _ rfl _ _ 26 rfl w.heap.size w.heap.size 4 i0 _ 1 Tryd.underlying26 hi hz0 hz1 hz2 rfl _ _ _ rfl pu _ _ _ rfl po (bls_one _) C3 C4 kk.size ?_)
  intro v4 w4 own4 hg4 _
  have U4 := Lib.hid (below_app kk pu own4 hg4 (by rw [List.length_append, un_length]))
  obtain ⟨a4, cap4, rfl⟩ := own_shape own4
  clear own4 hg4
  go_wp2_with fail
  go_ret
  rw [HC.out]
  exact U4.out
set_option maxRecDepth 100000 in
theorem gamma_any (v : Nat) (hv : v ≤ 1000000) (w : World) : Calls Tryd.prog 63 #[.int .i64 (v : Int)] w (RowPost (cb .gam v) w) := by
  have f12 : IntKind.u64.wrap (v : Int) = (v : Int) := IntWalk.u64_in _ (by omega)
  have G := Lib.hid (fun W => dbits_gam v hv W)
  go_enter Tryd.func63, Tryd.ntmps63
  go_wp2_with fail
  with_reducible refine (G.out _).mono ?_
  rintro e w2 ⟨v2, rfl, o2, k2⟩
  obtain ⟨a2, c2, rfl⟩ := own_shape o2
  have o3 := Lib.hid (And.intro o2 k2)
  clear o2 k2
  go_wp2_with fail
  go_ret
  exact ⟨_, rfl, o3.out.1, o3.out.2⟩
end Go.Proofs.YtflnpcgnenhogaaDoor.ls
namespace Go.Proofs.YtflnpcgnenhogaaDoor.ls
open Go.RowKit Go.Proofs.YtflnpcgnenhogaaDoor.own Go.Proofs.YtflnpcgnenhogaaDoor.bit

/-- a row of new bits, laid behind the bits so far -/
theorem LO.put {w0 W W2 W3 : World} {ks : List (Nat × Obj)} {out bs : Bits} {v v3 : Value} (h : LO w0 ks out v W) (k2 : Below W.heap.size W W2) (own3 : W3.ownsRow w0.heap.size 4 1 v3 (out.length + bs.length) (bls out ++ bls bs)) (hg : W2.grownBy W3 v.ownBlock) (hw : v3.ownBlock = v.ownBlock ∨ v3.ownBlock = some W2.heap.size) : LO w0 ks (out ++ bs) v3 W3 :=
  LO.grow (LG.next h k2) bs _ rfl own3 hg hw
theorem LO.own {w0 W W2 : World} {ks : List (Nat × Obj)} {out : Bits} {v : Value} (h : LO w0 ks out v W) (k2 : Below W.heap.size W W2) : W2.ownsRow w0.heap.size 4 1 v out.length (bls out) := (LG.next h k2).2.1
theorem LO.first {w0 W W2 : World} {ks : List (Nat × Obj)} {bs : Bits} {v v2 : Value} (h : LO w0 ks [] v W) (o2 : W2.ownsRow W.heap.size 4 1 v2 bs.length (bls bs)) (k2 : Below W.heap.size W W2) : LO w0 ks bs v2 W2 :=
  ⟨h.1.trans (k2.mono h.1.size), own_base o2 h.1.size, fun p hp => ⟨(k2.block _ (lt_of_block (h.2.2 p hp).1)).trans (h.2.2 p hp).1, fun e => absurd (o2.lt _ e.symm).1 (Nat.not_le_of_gt (lt_of_block (h.2.2 p hp).1))⟩⟩
/-- a row that a callee made stands beside, still -/
theorem LO.beside {w0 W W2 : World} {ks : List (Nat × Obj)} {out : Bits} {v vR : Value} {T : TypeId} {sz n : Nat} {xs : List Value} (h : LO w0 ks out v W) (k2 : Below W.heap.size W W2) (hR : W2.ownsRow W.heap.size T sz vR n xs) (hn : 0 < n) :
    ∃ g cap cur, vR = .slice (some ⟨g, 0, none⟩) n cap ∧ n ≤ cap ∧ LO w0 ((g, .cells cur T (0, 0)) :: ks) out v W2 ∧ ∀ W' : World, W'.heap[g]? = some (.cells cur T (0, 0)) → ∀ j u, xs[j]? = some u → W'.cell? ⟨g, j, none⟩ = some u := by
  obtain ⟨a0, cap0, e0, hcap⟩ := own_slice hR
  rcases hR.2 with ⟨_, h0⟩ | ⟨g, cap, cur, rfl, hb, hgg, _, _, _, htake⟩
  · omega
  · injection e0 with e1 e2 e3
    refine ⟨g, cap, cur, rfl, by rw [e3]; exact hcap, LG.with (LG.next h k2) hgg (fun e => ?_), fun W' hW j u hu => ?_⟩
    · have := (h.2.1.lt _ e.symm).2
      omega
    · rw [cell_of_row W' g j cur T (0, 0) hW]
      rw [← htake, List.getElem?_take] at hu
      split at hu
      · simpa using hu
      · cases hu
/-- the same of a row that may be empty: what stands beside grows, and reads it -/
theorem LO.besides {w0 W W2 : World} {ks : List (Nat × Obj)} {out : Bits} {v : Value} {a : Option Addr} {d : Nat} {T : TypeId} {sz n : Nat} {xs : List Value} (h : LO w0 ks out v W2) (hR : W2.ownsRow W.heap.size T sz (.slice a n d) n xs) (hne : ∀ g, a = some ⟨g, 0, none⟩ → some g ≠ v.ownBlock) :
    ∃ ks', (∀ p ∈ ks, p ∈ ks') ∧ LO w0 ks' out v W2 ∧ ∀ W' : World, (∀ p ∈ ks', W'.heap[p.1]? = some p.2) → ∀ j u, xs[j]? = some u → ∃ g, a = some ⟨g, 0, none⟩ ∧ W'.cell? ⟨g, j, none⟩ = some u := by
  rcases hR.2 with ⟨e0, h0⟩ | ⟨g, cap, cur, e0, hb, hgg, _, _, _, htake⟩
  · refine ⟨ks, fun p hp => hp, h, fun W' _ j u hu => ?_⟩
    have hx := hR.1
    rw [h0, Nat.zero_mul] at hx
    rw [List.eq_nil_of_length_eq_zero hx] at hu
    cases hu
  · injection e0 with e1 e2 e3
    subst e1
    refine ⟨_, fun p hp => List.mem_cons_of_mem _ hp, LG.with h hgg (hne g rfl), fun W' hW j u hu => ⟨g, rfl, ?_⟩⟩
    rw [cell_of_row W' g j cur T (0, 0) (hW _ (List.mem_cons_self ..))]
    rw [← htake, List.getElem?_take] at hu
    split at hu
    · simpa using hu
    · cases hu
theorem LO.low {w0 W : World} {ks : List (Nat × Obj)} {out : Bits} {v : Value} (h : LO w0 ks out v W) : Below w0.heap.size w0 W := h.1
theorem rnm_get : ∀ (k : Nat) (I : List Nat) (i : Nat) (h : i < I.length), (rnm k I)[i]? = some (I[i] - min (k + i) 1)
  | _, [], _, h => absurd h (Nat.not_lt_zero _)
  | k, n :: I, 0, _ => by unfold rnm; simp
  | k, n :: I, i + 1, h => by
    unfold rnm
    rw [List.getElem?_cons_succ, rnm_get (k + 1) I i (by simpa using h), List.getElem_cons_succ, show k + 1 + i = k + (i + 1) by omega]
theorem piV_get : ∀ (L : List (Nat × Nat)) (i : Nat) (h : i < L.length), (piV L)[i * 2]? = some (.int .u32 (L[i].1 : Int)) ∧ (piV L)[i * 2 + 1]? = some (.int .i64 (L[i].2 : Int))
  | q :: L, 0, _ => ⟨rfl, rfl⟩
  | q :: L, i + 1, h => by
    have := piV_get L i (by simpa using h)
    have e : piV (q :: L) = .int .u32 (q.1 : Int) :: .int .i64 (q.2 : Int) :: piV L := rfl
    rw [e, show (i + 1) * 2 = i * 2 + 1 + 1 by omega, List.getElem?_cons_succ, List.getElem?_cons_succ, List.getElem?_cons_succ, List.getElem?_cons_succ]
    exact this
theorem lnm_take (x itv : Nat) : ∀ (k : Nat) (e : Option Nat) (l : List (Nat × Nat)), lnm x itv e (l.take k) = (lnm x itv e l).take (2 * k)
  | 0, e, l => by rw [List.take_zero, Nat.mul_zero, List.take_zero]; cases e <;> rfl
  | k + 1, e, [] => by rw [List.take_nil, show lnm x itv e [] = [] by cases e <;> rfl, List.take_nil]
  | k + 1, e, (f, n) :: l => by rw [List.take_succ_cons, lnm_cons, lnm_cons, lnm_take x itv k, show 2 * (k + 1) = 2 * k + 1 + 1 by omega, List.take_succ_cons, List.take_succ_cons]
theorem znm_take (x : Nat) : ∀ (k : Nat) (e : Option Nat) (l : List Nat), znm x e (l.take k) = (znm x e l).take k
  | 0, e, l => by rw [List.take_zero, List.take_zero]; cases e <;> rfl
  | k + 1, none, [] => rfl
  | k + 1, some _, [] => rfl
  | k + 1, none, a :: l => by rw [List.take_succ_cons]; show _ :: znm x (some a) (l.take k) = (_ :: znm x (some a) l).take (k + 1); rw [znm_take x k, List.take_succ_cons]
  | k + 1, some _, a :: l => by rw [List.take_succ_cons]; show _ :: znm x (some a) (l.take k) = (_ :: znm x (some a) l).take (k + 1); rw [znm_take x k, List.take_succ_cons]
theorem gap_wrap (f g n v : Nat) (h1 : f < 65536) (h2 : g + n ≤ 65536) (h3 : f - (g + n - 1) - 2 = v) (h4 : g + n - 1 + 2 ≤ f ∧ 0 < n) : IntKind.i64.wrap (IntKind.i64.wrap (IntKind.i64.wrap (IntKind.i64.wrap (IntKind.i64.wrap (f : Int) - IntKind.i64.wrap (g : Int)) - (n : Int)) + 1) - 2) = (v : Int) := by
  obtain ⟨h4, h5⟩ := h4
  rw [i64_nat f (by omega), i64_nat g (by omega), i64_diff f g (by omega) (by omega), IntWalk.i64_in ((f : Int) - (g : Int) - (n : Int)) (by omega), IntWalk.i64_in ((f : Int) - (g : Int) - (n : Int) + 1) (by omega), IntWalk.i64_in _ (by omega)]
  omega
theorem rest_wrap (v u z : Nat) (h1 : v < 65536) (h2 : u < v) (h3 : v - u - 1 = z) : IntKind.u64.wrap (IntKind.u32.wrap (IntKind.u32.wrap ((v : Int) - (u : Int)) - 1)) = (z : Int) := by
  have e1 : IntKind.u32.wrap ((v : Int) - (u : Int)) = (v : Int) - (u : Int) := by rw [IntKind.wrap_u32]; omega
  have e2 : IntKind.u32.wrap ((v : Int) - (u : Int) - 1) = (z : Int) := by rw [IntKind.wrap_u32]; omega
  rw [e1, e2, IntWalk.u64_in _ (by omega)]
theorem LO.post {w0 W : World} {ks : List (Nat × Obj)} {out : Bits} {v : Value} (h : LO w0 ks out v W) : RowPost out w0 (.returned v) W := ⟨v, rfl, h.2.1, h.1⟩

/-- the bits so far, and the row of what is left growing beside -/
def LT (w0 : World) (ks : List (Nat × Obj)) (out : Bits) (v : Value) (L : List Nat) (u : Value) (W : World) : Prop :=
  LO w0 ks out v W ∧ W.ownsRow w0.heap.size 60 1 u L.length (u32V L) ∧ (∀ g, v.ownBlock = some g → u.ownBlock ≠ some g) ∧ ∀ p ∈ ks, some p.1 ≠ u.ownBlock
theorem LT.add1 {w0 W W2 : World} {ks : List (Nat × Obj)} {out : Bits} {v : Value} {L : List Nat} {u u' : Value} (h : LT w0 ks out v L u W) (x : Nat) (o : Obj) (own : W2.ownsRow w0.heap.size 60 1 u' (L.length + 1) (u32V L ++ [.int .u32 (x : Int)])) (hg : (W.alloc o).grownBy W2 u.ownBlock) (hw : u'.ownBlock = u.ownBlock ∨ u'.ownBlock = some (W.heap.size + 1)) : LT w0 ks out v (L ++ [x]) u' W2 := by
  obtain ⟨⟨h1, h2, h3⟩, h4, h5, h6⟩ := h
  have hs : (W.alloc o).heap.size = W.heap.size + 1 := by simp
  refine ⟨⟨(h1.alloc h1.size o).grown hg (by have := h1.size; omega) (fun k hk => (h4.lt k hk).1), (h2.alloc o).kept hg ?_, fun p hp => ?_⟩, ?_, fun g hgv => ?_, fun p hp => ?_⟩
  · cases hv : v.ownBlock with
    | none => exact .inl rfl
    | some g => exact .inr (fun e => h5 g hv e.symm)
  · have hlt := lt_of_block (h3 p hp).1
    exact ⟨(hg.block _ (by omega) (h6 p hp)).trans ((heap_alloc_old W o hlt).trans (h3 p hp).1), (h3 p hp).2⟩
  · rw [List.length_append, u32V_append]; exact own
  · rcases hw with e | e
    · rw [e]; exact h5 g hgv
    · rw [e]
      intro e2
      injection e2 with e2
      have := (h2.lt g hgv).2
      omega
  · rcases hw with e | e
    · rw [e]; exact h6 p hp
    · rw [e]
      intro e2
      injection e2 with e2
      have := lt_of_block (h3 p hp).1
      omega
set_option maxRecDepth 100000 in
set_option maxHeartbeats 6400000 in
theorem dlaid_any (p : Pr) (x : Nat) (w : World) (a : Option Addr) (succ : List Nat) (cap : Nat) (b : Option Addr) (ref : List Nat) (capb r : Nat) (hc : succ.length ≤ cap) (_hcb : ref.length ≤ capb) (hm : MayN x succ ref r p) (hA : LV w a succ) (hB : LV w b ref) :
    Calls Tryd.prog 38 #[.int .i64 (x : Int), .slice a succ.length cap, .slice b ref.length capb, .int .i64 (r : Int), parV (p.win : Int) (p.itv : Int) (p.zet : Int)] w (RowPost (lay x succ ref r p) w) := by
  obtain ⟨i0, hi, hz0, hz1, hz2⟩ := info_parts Tryd.infoBool
  have LL := Lib.hid (lay_len hm)
  have MN := Lib.hid hm
  have GA := Lib.hid (fun v h W => gamma_any v h W)
  obtain ⟨⟨m1, m2, m3, m4⟩, m5, m6, m7, m8, m9⟩ := hm
  have hlen := m6.len
  have LY : Hid (lay x succ ref r p = cb .gam succ.length ++ bitsOf (if succ = [] then [] else (if 0 < p.win then [(.una, r)] else [])) ++ bitsOf (tlN x succ ref r p)) := Lib.hid (by unfold lay nums hdN; rw [bitsOf_append, bitsOf_cons])
  have H := Lib.hid (And.intro hA hB)
  unfold parV
  clear hA hB
  go_enter Tryd.func38, Tryd.ntmps38
  go_upto_region 1 with fail
  have H0 : LO w [(w.heap.size, .cells #[.int .i64 (p.win : Int), .int .i64 (p.itv : Int), .int .i64 (p.zet : Int)] 31 (0, 0))] [] (.slice none 0 0) (w.alloc (.cells #[.int .i64 (p.win : Int), .int .i64 (p.itv : Int), .int .i64 (p.zet : Int)] 31)) := LG.keep (ks := []) ⟨Below.refl _ _, World.ownsRow_nil _ _ _ _, fun _ h => by cases h⟩ _ _
  obtain ⟨W1, hW1⟩ : ∃ W, World.alloc w (.cells #[.int .i64 (p.win : Int), .int .i64 (p.itv : Int), .int .i64 (p.zet : Int)] 31) = W := ⟨_, rfl⟩
  rw [hW1] at H0
  rw [hW1]
  have H0 := Lib.hid H0
  obtain ⟨N, hN⟩ : ∃ N, succ.length = N := ⟨_, rfl⟩
  have HN := Lib.hid hN
  have hN9 : N ≤ 65536 := by omega
  rw [hN] at hc ⊢
  go_wp2_with fail
  with_reducible refine (GA.out N (by omega) _).mono ?_
  rintro e W2 ⟨v2, rfl, o2, k2⟩
  have H1 := Lib.hid (LO.first H0.out o2 k2)
  have K1 : Hid (Below w.heap.size w W2) := Lib.hid H1.out.1
  obtain ⟨s2, d2, rfl⟩ := own_shape o2
  generalize (cb Cd.gam N).length = l1 at H1 ⊢
  clear o2 k2 H0
  by_cases hs : succ = []
  · have hN0 : N = 0 := by rw [← hN, hs]; rfl
    have E : Hid (lay x succ ref r p = cb .gam N) := Lib.hid (by rw [LY.out, HN.out, if_pos hs]; unfold tlN; rw [if_pos hs]; simp [bitsOf_nil])
    clear hN hs LY
    subst hN0
    go_wp2_with fail
    go_ret
    rw [E.out]
    exact H1.out.post
  · have hN0 : ¬ (N : Int) = 0 := by
      intro h
      exact hs (List.eq_nil_of_length_eq_zero (by omega))
    have LY2 : Hid (lay x succ ref r p = cb .gam N ++ (if 0 < p.win then cb .una r else []) ++ bitsOf (runN succ ref r) ++ bitsOf (restN x (leftOf succ ref) p)) := Lib.hid (by
      rw [LY.out, HN.out, if_neg hs]; unfold tlN; rw [if_neg hs, bitsOf_append]
      split <;> simp [bitsOf_nil, bitsOf_cons, List.append_assoc])
    clear LY
    have HS := Lib.hid hs
    clear hs
    have hNb : ((N : Int) == 0) = false := beq_eq_false_iff_ne.2 hN0
    obtain ⟨wn, hwn⟩ : ∃ n, p.win = n := ⟨_, rfl⟩
    obtain ⟨iv, hiv⟩ : ∃ n, p.itv = n := ⟨_, rfl⟩
    obtain ⟨zt, hzt⟩ : ∃ n, p.zet = n := ⟨_, rfl⟩
    rw [hwn] at m1 m8 LY2
    rw [hiv] at m2
    rw [hzt] at m3 m4
    rw [hwn, hiv, hzt] at H1
    have c0 : W2.cell? ⟨w.heap.size, 0, none⟩ = some (.int .i64 (wn : Int)) := by rw [cell_of_row _ _ _ _ _ _ (H1.out.row (List.mem_singleton.2 rfl))]; rfl
    go_upto_if 30 with fail
    go_cut [11] from 28 to 36 (fun v11 wc => LO w [(w.heap.size, .cells #[.int .i64 (wn : Int), .int .i64 (iv : Int), .int .i64 (zt : Int)] 31 (0, 0))] (cb .gam N ++ (if 0 < wn then cb .una r else [])) v11 wc)
    case first =>
      by_cases hw0 : 0 < wn
      · have i1 : decide ((0 : Int) < (wn : Int)) = true := decide_eq_true (by omega)
        have i1n : decide (0 < wn) = true := decide_eq_true hw0
        have f12 : IntKind.u64.wrap (r : Int) = (r : Int) := IntWalk.u64_in _ (by omega)
        have BU := Lib.hid (fun W => dbits_una r (by omega) W)
        have CL : (cb .gam N).length + (cb .una r).length ≤ 5243040 := by
          have := LL.out
          rw [LY2.out, if_pos hw0] at this
          simp only [List.length_append] at this
          omega
        have C3 : Hid ((cb .gam N).length + (cb .una r).length ≤ maxLen) := Lib.hid (by simp only [maxLen]; omega)
        have C4 : Hid (((cb .gam N).length + (cb .una r).length) * 1 ≤ 140737488355328) := Lib.hid (by omega)
        go_wp2_with fail
        with_reducible refine (BU.out _).mono ?_
        rintro e W3 ⟨v3, rfl, o3, k3⟩
        have pu := H1.out.own k3
        have ks := Nat.le_trans K1.out.size k3.size
        go_wp2_with (at_builtin; refine wpList_append_row _ rfl _ _ 26 rfl w.heap.size W2.heap.size 4 i0 _ 1 Tryd.underlying26 hi hz0 hz1 hz2 rfl _ _ _ rfl pu _ _ _ rfl o3 (bls_one _) C3.out C4.out ks ?_)
        intro v4 W4 own4 hg4 hw4
        have N1 := Lib.hid (H1.out.put k3 own4 hg4 hw4)
        clear own4 hg4 hw4 pu o3 k3
        go_wp2_with fail
        go_meet
        case rel => rw [if_pos hw0]; exact N1.out
      · have i1 : decide ((0 : Int) < (wn : Int)) = false := decide_eq_false (by omega)
        have i1n : decide (0 < wn) = false := decide_eq_false hw0
        go_wp2_with fail
        go_meet
        case rel => rw [if_neg hw0, List.append_nil]; exact H1.out
    case rest =>
      have HCT := Lib.hid hcut
      obtain ⟨O1, hO1⟩ : ∃ O, cb .gam N ++ (if 0 < wn then cb .una r else []) = O := ⟨_, rfl⟩
      rw [hO1] at HCT LY2
      clear hcut hO1 H1 c0 K1
      go_upto_if 38 with fail
      go_cut [11, 12, 13] from 37 to 70 (fun v11 _ _ wc => LO w [(w.heap.size, .cells #[.int .i64 (wn : Int), .int .i64 (iv : Int), .int .i64 (zt : Int)] 31 (0, 0))] (O1 ++ bitsOf (runN succ ref r)) v11 wc)
      case first =>
        by_cases hr0 : 0 < r
        · have i1 : decide ((0 : Int) < (r : Int)) = true := decide_eq_true (by omega)
          have i1n : decide (0 < r) = true := decide_eq_true hr0
          have AB := Lib.hid (fun W (k : Below w.heap.size w W) => druns_any W a succ cap b ref capb (H.out.1.below k) (H.out.2.below k) m6 m7)
          have RN : Hid (bitsOf (runN succ ref r) = cb .gam (runs succ ref).1.length ++ bitsOf ((rnm 0 (runs succ ref).1).map (fun v => (Cd.gam, v)))) := Lib.hid (by unfold runN; rw [if_pos hr0, bitsOf_cons])
          have NK : ∀ q ∈ (Cd.gam, (runs succ ref).1.length) :: (rnm 0 (runs succ ref).1).map (fun v => (Cd.gam, v)), q.2 < 262144 := fun q hq => ((nums_ok MN.out).1 q (by
            unfold nums tlN runN
            rw [if_neg HS.out, if_pos hr0]
            exact List.mem_append_right _ (List.mem_append_left _ hq))).2.1
          have RO := (runs_ok succ ref).pos
          obtain ⟨⟨I, z⟩, hQ⟩ : ∃ Q, runs succ ref = Q := ⟨_, rfl⟩
          have RO : ∀ i (h : i < I.length), 0 < i → 0 < I[i] := by rw [hQ] at RO; exact RO
          rw [hQ] at AB RN NK
          rw [HN.out] at AB
          dsimp only at AB RN NK
          obtain ⟨n, hn⟩ : ∃ n, I.length = n := ⟨_, rfl⟩
          have hn9 : n < 262144 := by rw [← hn]; exact NK _ (List.mem_cons_self ..)
          have RL : Hid (∀ i (h : i < n), (rnm 0 I)[i]? = some ((I[i]'(by omega)) - min i 1) ∧ (I[i]'(by omega)) - min i 1 < 262144 ∧ (0 < i → 0 < I[i]'(by omega))) := Lib.hid (fun i h => by
            have e := rnm_get 0 I i (by omega)
            rw [Nat.zero_add] at e
            exact ⟨e, NK (Cd.gam, _) (List.mem_cons_of_mem _ (List.mem_map.2 ⟨_, List.mem_of_getElem? e, rfl⟩)), fun h0 => RO i (by omega) h0⟩)
          have RV : Hid (∀ i (h : i < n), (runV (I, z))[i]? = some (.int .i64 ((I[i]'(by omega) : Nat) : Int))) := Lib.hid (fun i h => by
            unfold runV intV
            dsimp only
            rw [List.map_append, List.getElem?_append_left (by rw [List.length_map]; omega), List.getElem?_map, List.getElem?_eq_getElem (by omega)]
            rfl)
          have LB : Hid (((rnm 0 I).map (fun v => (Cd.gam, v))).length = n) := Lib.hid (by rw [List.length_map, rnm_length]; exact hn)
          have CL : O1.length + (cb .gam n).length + (bitsOf ((rnm 0 I).map (fun v => (Cd.gam, v)))).length ≤ 5243040 := by
            have := LL.out
            rw [LY2.out, RN.out, hn] at this
            simp only [List.length_append] at this
            omega
          rw [hn] at AB RN
          clear NK RO hQ
          go_wp2_with fail
          with_reducible refine (AB.out _ HCT.out.low).mono ?_
          rintro e W3 ⟨vR, rfl, oR, k3⟩
          obtain ⟨g, capR, cur, rfl, hcR, h3, hcell⟩ := HCT.out.beside k3 oR (Nat.succ_pos _)
          have HCL := Lib.hid hcell
          have H3 := Lib.hid h3
          obtain ⟨s3, d3, rfl⟩ := own_shape h3.2.1
          have wn1 : wrap64 (((n + 1 : Nat) : Int) - 1) = (n : Int) := by rw [IntWalk.wrap64_in _ (by omega)]; omega
          clear k3 oR h3 hcell
          go_wp2_with fail
          with_reducible refine (GA.out n (by omega) _).mono ?_
          rintro e W4 ⟨v4, rfl, o4, k4⟩
          have C3 : Hid (O1.length + (cb .gam n).length ≤ maxLen) := Lib.hid (by simp only [maxLen]; omega)
          have C4 : Hid ((O1.length + (cb .gam n).length) * 1 ≤ 140737488355328) := Lib.hid (by omega)
          have pu := H3.out.own k4
          have ks := Nat.le_trans H3.out.low.size k4.size
          go_wp2_with (at_builtin; refine wpList_append_row _ rfl _ _ 26 rfl w.heap.size W3.heap.size 4 i0 _ 1 Tryd.underlying26 hi hz0 hz1 hz2 rfl _ _ _ rfl pu _ _ _ rfl o4 (bls_one _) C3.out C4.out ks ?_)
          intro v5 W5 own5 hg5 hw5
          have N1 := Lib.hid (H3.out.put k4 own5 hg5 hw5)
          clear own5 hg5 hw5 pu o4 k4 ks
          obtain ⟨B, hB⟩ : ∃ B, (rnm 0 I).map (fun v => (Cd.gam, v)) = B := ⟨_, rfl⟩
          rw [hB] at RN LB
          obtain ⟨O2, hO2⟩ : ∃ O, O1 ++ cb .gam n = O := ⟨_, rfl⟩
          rw [hO2] at N1
          have HB2 := Lib.hid (And.intro hB hO2)
          have CL2 : Hid (O2.length + (bitsOf B).length ≤ 5243040) := Lib.hid (by rw [← hO2, ← hB, List.length_append]; exact CL)
          clear hB hO2 CL
          go_wp2_with fail
          go_loopw [11, 13] (fun v11 v13 wr => ∃ i : Nat, i ≤ n ∧ v13 = .int .i64 (i : Int) ∧ LO w [(g, .cells cur 3 (0, 0)), (w.heap.size, .cells #[.int .i64 (wn : Int), .int .i64 (iv : Int), .int .i64 (zt : Int)] 31 (0, 0))] (O2 ++ bitsOf (B.take i)) v11 wr)
            (fun _ v13 _ => n - (intOf v13).toNat)
          case atStart => exact ⟨0, Nat.zero_le _, rfl, by rw [List.take_zero, bitsOf_nil, List.append_nil]; exact N1.out⟩
          case round =>
            obtain ⟨i, hin, rfl, hW⟩ := hrel
            rename World => wr
            obtain ⟨s5, d5, rfl⟩ := own_shape hW.2.1
            have HW := Lib.hid hW
            clear hW
            by_cases hilt : i < n
            · have ci := HCL.out wr (HW.out.row (List.mem_cons_self ..)) i _ (RV.out i hilt)
              obtain ⟨e1, e2, e3⟩ := RL.out i hilt
              obtain ⟨q, hq⟩ : ∃ q, I[i]'(by omega) = q := ⟨_, rfl⟩
              rw [hq] at ci e1 e2 e3
              obtain ⟨m, hm⟩ : ∃ m, q - min i 1 = m := ⟨_, rfl⟩
              rw [hm] at e1 e2
              have BT : bitsOf (B.take (i + 1)) = bitsOf (B.take i) ++ cb .gam m := by
                have hb : i < B.length := by rw [LB.out]; exact hilt
                have e4 : B[i] = (Cd.gam, m) := by
                  have : B[i]? = some (Cd.gam, m) := by rw [← HB2.out.1, List.getElem?_map, e1]; rfl
                  rw [List.getElem?_eq_getElem hb] at this
                  exact Option.some.inj this
                rw [bitsOf_take B i hb, e4]
              obtain ⟨O3, hO3⟩ : ∃ O, O2 ++ bitsOf (B.take i) = O := ⟨_, rfl⟩
              rw [hO3] at HW ⊢
              have CL3 : O3.length + (cb .gam m).length ≤ 5243040 := by
                have h1 := bits_take_le B (i + 1)
                rw [BT, List.length_append] at h1
                have h2 := CL2.out
                rw [← hO3, List.length_append]
                omega
              have C3 : Hid (O3.length + (cb .gam m).length ≤ maxLen) := Lib.hid (by simp only [maxLen]; omega)
              have C4 : Hid ((O3.length + (cb .gam m).length) * 1 ≤ 140737488355328) := Lib.hid (by omega)
              have RS : Hid (O2 ++ bitsOf (B.take (i + 1)) = O3 ++ cb .gam m) := Lib.hid (by rw [BT, ← hO3, List.append_assoc])
              clear e1 BT CL3 hO3 hq
              by_cases h0 : i = 0
              · subst h0
                have hmq : q = m := by omega
                subst hmq
                go_wp2_with fail
                with_reducible refine (GA.out q (by omega) _).mono ?_
                rintro e W6 ⟨v6, rfl, o6, k6⟩
                have pu := HW.out.own k6
                have ks := Nat.le_trans HW.out.low.size k6.size
                go_wp2_with (at_builtin; refine wpList_append_row _ rfl _ _ 26 rfl w.heap.size wr.heap.size 4 i0 _ 1 Tryd.underlying26 hi hz0 hz1 hz2 rfl _ _ _ rfl pu _ _ _ rfl o6 (bls_one _) C3.out C4.out ks ?_)
                intro v7 W7 own7 hg7 hw7
                have N2 := Lib.hid (HW.out.put k6 own7 hg7 hw7)
                clear own7 hg7 hw7 pu o6 k6 ks
                go_wp2_with fail
                go_roundw
                case rel => exact ⟨0 + 1, hilt, by go_num, by rw [RS.out]; exact N2.out⟩
                case measure => simp [intOf]; try omega
              · have hmq : (q : Int) - 1 = (m : Int) := by have := e3 (by omega); omega
                have hib : ((i : Int) == 0) = false := beq_eq_false_iff_ne.2 (by omega)
                clear hm e3
                go_wp2_with fail
                with_reducible refine (GA.out m (by omega) _).mono ?_
                rintro e W6 ⟨v6, rfl, o6, k6⟩
                have pu := HW.out.own k6
                have ks := Nat.le_trans HW.out.low.size k6.size
                go_wp2_with (at_builtin; refine wpList_append_row _ rfl _ _ 26 rfl w.heap.size wr.heap.size 4 i0 _ 1 Tryd.underlying26 hi hz0 hz1 hz2 rfl _ _ _ rfl pu _ _ _ rfl o6 (bls_one _) C3.out C4.out ks ?_)
                intro v7 W7 own7 hg7 hw7
                have N2 := Lib.hid (HW.out.put k6 own7 hg7 hw7)
                clear own7 hg7 hw7 pu o6 k6 ks
                go_wp2_with fail
                go_roundw
                case rel => exact ⟨i + 1, hilt, by go_num, by rw [RS.out]; exact N2.out⟩
                case measure => simp [intOf]; try omega
            · have hie : i = n := by omega
              subst hie
              have i5 : decide ((i : Int) + 1 < ((i + 1 : Nat) : Int)) = false := decide_eq_false (by omega)
              have FIN : Hid (O1 ++ bitsOf (runN succ ref r) = O2 ++ bitsOf (B.take i)) := Lib.hid (by
                rw [RN.out, List.take_of_length_le (by rw [LB.out]; exact Nat.le_refl _), ← HB2.out.2, List.append_assoc])
              go_wp2_with fail
              go_meet
              case rel => rw [FIN.out]; exact LG.sub HW.out (fun p hp => List.mem_cons_of_mem _ hp)
          all_goals skip
        · have i1 : decide ((0 : Int) < (r : Int)) = false := decide_eq_false (by omega)
          have i1n : decide (0 < r) = false := decide_eq_false hr0
          go_wp2_with fail
          go_meet
          case rel => unfold runN; rw [if_neg hr0, bitsOf_nil, List.append_nil]; exact HCT.out
      case rest =>
        have HCT2 := Lib.hid hcut
        obtain ⟨O5, hO5⟩ : ∃ O, O1 ++ bitsOf (runN succ ref r) = O := ⟨_, rfl⟩
        rw [hO5] at HCT2 LY2
        clear hcut hO5 HCT
        obtain ⟨j0, hj, hj0, hj1, hj2⟩ := info_parts Tryd.infoU32
        have IN := Lib.hid (fun W (k : Below w.heap.size w W) v => in_any W b ref capb v (H.out.2.below k) m7.1)
        have LT0 : Hid (LT w [(w.heap.size, .cells #[.int .i64 (wn : Int), .int .i64 (iv : Int), .int .i64 (zt : Int)] 31 (0, 0))] O5 u11 [] (.slice none 0 0) wc) := Lib.hid ⟨HCT2.out, World.ownsRow_nil _ _ _ _, (fun g hg e => nomatch e), (fun p hp e => nomatch e)⟩
        clear HCT2
        go_wp2_with fail
        go_loopw [14, 15] (fun v14 v15 wr => ∃ i : Nat, i ≤ N ∧ v15 = .int .i64 (i : Int) ∧ LT w [(w.heap.size, .cells #[.int .i64 (wn : Int), .int .i64 (iv : Int), .int .i64 (zt : Int)] 31 (0, 0))] O5 u11 (leftOf (succ.take i) ref) v14 wr)
          (fun _ v15 _ => N - (intOf v15).toNat)
        case atStart => exact ⟨0, Nat.zero_le _, rfl, by rw [List.take_zero]; exact LT0.out⟩
        case round =>
          obtain ⟨i, hin, rfl, hT⟩ := hrel
          rename World => wr
          have HT := Lib.hid hT
          obtain ⟨s6, d6, rfl⟩ := own_shape hT.2.1
          clear hT
          by_cases hlt : i < N
          · have i0' : decide ((i : Int) < (N : Int)) = true := decide_eq_true (by omega)
            have hil : i < succ.length := by rw [HN.out]; exact hlt
            obtain ⟨a0, ha0⟩ : ∃ x, succ[i] = x := ⟨_, rfl⟩
            obtain ⟨g, o, rfl⟩ := H.out.1.addr (by omega)
            have c0 : wr.cell? ⟨g, o + i, none⟩ = some (.int .u32 (a0 : Int)) := by
              obtain ⟨g', o', e, h3, _⟩ := (H.out.1.below HT.out.1.low).cellAt i hil
              injection e with e
              injection e with e1 e2
              subst e1 e2
              rw [h3, ha0]
            obtain ⟨bb, hbb⟩ : ∃ q, isIn ref a0 = q := ⟨_, rfl⟩
            have LS : Hid (leftOf (succ.take (i + 1)) ref = leftOf (succ.take i) ref ++ (if bb then [] else [a0])) := Lib.hid (by
              unfold leftOf
              rw [List.take_succ_eq_append_getElem hil, List.filter_append, ha0]
              congr 1
              rw [List.filter_cons, hbb]
              cases bb <;> rfl)
            have hLn : (leftOf (succ.take i) ref).length ≤ 65536 := Nat.le_trans (List.length_filter_le _ _) (by rw [List.length_take]; omega)
            obtain ⟨L, hL⟩ : ∃ L, leftOf (succ.take i) ref = L := ⟨_, rfl⟩
            rw [hL] at HT LS hLn ⊢
            have IN2 := Lib.hid (IN.out wr HT.out.1.low a0)
            rw [hbb] at IN2
            clear hL hbb ha0
            go_wp2_with fail
            with_reducible refine IN2.out.mono ?_
            rintro e w6 ⟨rfl, rfl⟩
            cases bb with
            | true =>
              go_wp2_with fail
              go_roundw
              case rel => exact ⟨i + 1, hlt, by go_num, by rw [LS.out]; simpa using HT.out⟩
              case measure => simp [intOf]; try omega
            | false =>
              have C3 : Hid (L.length + 1 ≤ maxLen) := Lib.hid (by simp only [maxLen]; omega)
              have C4 : Hid ((L.length + 1) * 4 ≤ 140737488355328) := Lib.hid (by omega)
              have C5 : Hid (w.heap.size ≤ wr.heap.size) := Lib.hid HT.out.1.low.size
              have ho := HT.out.2.1
              have C5' : Hid (w.heap.size ≤ (wr.alloc (.cells #[.int .u32 (a0 : Int)] 60)).heap.size) := Lib.hid (by simp; exact Nat.le_succ_of_le C5.out)
              have OA := Lib.hid (ho.alloc (.cells #[.int .u32 (a0 : Int)] 60))
              go_wp2_with (at_builtin; refine wpList_append_at _ rfl _ _ 29 rfl w.heap.size 60 j0 _ 1 4 Tryd.underlying29 hj hj0 hj1 hj2 rfl (by decide) _ L.length _ rfl OA.out ⟨wr.heap.size, 0, none⟩ 1 1 [.int .u32 (a0 : Int)] rfl rfl (cell_one_new _ _ _) (u32_one [a0]) C3.out C4.out C5'.out (by decide) ?_)
              intro v7 w7 own7 hg7 hw7
              have T2 := Lib.hid (HT.out.add1 a0 _ own7 hg7 hw7)
              clear ho own7 hg7 hw7
              go_wp2_with fail
              go_roundw
              case rel => exact ⟨i + 1, hlt, by go_num, by rw [LS.out]; simpa using T2.out⟩
              case measure => simp [intOf]; try omega
          · have i0' : decide ((i : Int) < (N : Int)) = false := decide_eq_false (by omega)
            have hie : leftOf (succ.take i) ref = leftOf succ ref := by rw [List.take_of_length_le (by rw [HN.out]; omega)]
            obtain ⟨L, hL⟩ : ∃ L, leftOf succ ref = L := ⟨_, rfl⟩
            rw [hie, hL] at HT ⊢
            rw [hL] at LY2
            have HLF := Lib.hid hL
            clear hie hL
            by_cases hL0 : L = []
            · have E : Hid (lay x succ ref r p = O5) := Lib.hid (by rw [LY2.out]; unfold restN; rw [if_pos hL0, bitsOf_nil, List.append_nil])
              subst hL0
              have hT1 := HT.out.1
              obtain ⟨s7, d7, rfl⟩ := own_shape hT1.2.1
              go_wp2_with fail
              go_ret
              rw [E.out]
              exact hT1.post
            · have hRL : Ris L := by
                rw [← HLF.out]
                exact ⟨m6.1.sublist (List.filter_sublist ..), fun v hv => m6.2 v ((List.mem_filter.1 hv).1)⟩
              have hLl := hRL.len
              have hln : ¬ (L.length : Int) = 0 := fun h => hL0 (List.eq_nil_of_length_eq_zero (by omega))
              have hlnb : ((L.length : Int) == 0) = false := beq_eq_false_iff_ne.2 hln
              obtain ⟨aL, cL, eL, hcL, hLV⟩ := lv_own (by omega) (fun u hu => Nat.lt_of_lt_of_le (hRL.2 u hu) (by decide)) HT.out.2.1
              injection eL with eL1 eL2 eL3
              subst eL1 eL3
              have c1 : wr.cell? ⟨w.heap.size, 1, none⟩ = some (.int .i64 (iv : Int)) := by rw [cell_of_row _ _ _ _ _ _ (HT.out.1.row (List.mem_singleton.2 rfl))]; rfl
              have IV := Lib.hid (intervals_any wr s6 L d6 iv hcL (by omega) hLV hRL)
              clear hLV
              go_wp2_with fail
              with_reducible refine IV.out.mono ?_
              rintro e w8 ⟨v1, v2, rfl, hI⟩
              have HI := Lib.hid hI
              obtain ⟨a8, d8, rfl⟩ := own_shape hI.2.1
              obtain ⟨a9, d9, rfl⟩ := own_shape hI.2.2.1
              have HN8 : Hid (LO w [(w.heap.size, .cells #[.int .i64 (wn : Int), .int .i64 (iv : Int), .int .i64 (zt : Int)] 31 (0, 0))] O5 u11 w8) := Lib.hid (LG.next HT.out.1 hI.1)
              clear hI c1
              have c1 : w8.cell? ⟨w.heap.size, 1, none⟩ = some (.int .i64 (iv : Int)) := by rw [cell_of_row _ _ _ _ _ _ (HN8.out.row (List.mem_singleton.2 rfl))]; rfl
              have HLO := Lib.hid HT.out.1
              obtain ⟨⟨rws1, rst1⟩, hRW⟩ : ∃ Q, rws iv L = Q := ⟨_, rfl⟩
              have HRW := Lib.hid hRW
              rw [hRW] at HI ⊢
              dsimp only at HI ⊢
              obtain ⟨ks1, hs1, h8a, HC1⟩ := LO.besides HN8.out HI.out.2.1 (fun g e he => by
                have e1 := (HLO.out.2.1.lt g he.symm).2
                have e2 := (HI.out.2.1.lt g (by rw [e]; rfl)).1
                omega)
              obtain ⟨ks2, hs2, h8b, HC2⟩ := LO.besides h8a HI.out.2.2.1 (fun g e he => by
                have e1 := (HLO.out.2.1.lt g he.symm).2
                have e2 := (HI.out.2.2.1.lt g (by rw [e]; rfl)).1
                omega)
              have PB := Lib.hid (hs2 _ (hs1 _ (List.mem_singleton.2 rfl)))
              have HC1 := Lib.hid (fun W' (h : ∀ p ∈ ks2, W'.heap[p.1]? = some p.2) => HC1 W' (fun p hp => h p (hs2 p hp)))
              have HC2 := Lib.hid HC2
              have H8 := Lib.hid h8b
              clear h8a h8b hs1 hs2 hRW HN8 HI HLO
              have RB : Hid (bitsOf (restN x L p) = (if 0 < iv then cb .gam rws1.length else []) ++ bitsOf ((lnm x iv none rws1).map (fun v => (Cd.gam, v))) ++ bitsOf ((znm x none rst1).map (fun v => (Cd.zet zt, v)))) := Lib.hid (by
                unfold restN
                rw [if_neg hL0, hiv, hzt, HRW.out, bitsOf_append, bitsOf_append]
                congr 2
                split <;> simp [bitsOf_cons, bitsOf_nil])
              have NKR : Hid (∀ q ∈ restN x L p, q.2 < 262144) := Lib.hid (fun q hq => ((nums_ok MN.out).1 q (by
                unfold nums tlN
                rw [if_neg HS.out, HLF.out]
                exact List.mem_append_right _ (List.mem_append_right _ hq))).2.1)
              have CL : O5.length + (bitsOf (restN x L p)).length ≤ 5243040 := by
                have := LL.out
                rw [LY2.out] at this
                simpa only [List.length_append] using this
              go_upto_if 104 with fail
              go_cut [11] from 102 to 109 (fun v11 wc => LO w ks2 (O5 ++ (if 0 < iv then cb .gam rws1.length else [])) v11 wc)
              case first =>
                by_cases hv0 : 0 < iv
                · have i1 : decide ((0 : Int) < (iv : Int)) = true := decide_eq_true (by omega)
                  have i1n : decide (0 < iv) = true := decide_eq_true hv0
                  have hnr : rws1.length < 262144 := NKR.out (Cd.gam, rws1.length) (by
                    unfold restN
                    rw [if_neg hL0, hiv, HRW.out, if_pos hv0]
                    exact List.mem_append_left _ (List.mem_append_left _ (List.mem_singleton.2 rfl)))
                  rw [RB.out, if_pos hv0] at CL
                  simp only [List.length_append] at CL
                  have C3 : Hid (O5.length + (cb .gam rws1.length).length ≤ maxLen) := Lib.hid (by simp only [maxLen]; omega)
                  have C4 : Hid ((O5.length + (cb .gam rws1.length).length) * 1 ≤ 140737488355328) := Lib.hid (by omega)
                  obtain ⟨s9, d9, rfl⟩ := own_shape H8.out.2.1
                  clear CL
                  go_wp2_with fail
                  with_reducible refine (GA.out rws1.length (by omega) _).mono ?_
                  rintro e W4 ⟨v4, rfl, o4, k4⟩
                  have pu := H8.out.own k4
                  have ks := Nat.le_trans H8.out.low.size k4.size
                  go_wp2_with (at_builtin; refine wpList_append_row _ rfl _ _ 26 rfl w.heap.size w8.heap.size 4 i0 _ 1 Tryd.underlying26 hi hz0 hz1 hz2 rfl _ _ _ rfl pu _ _ _ rfl o4 (bls_one _) C3.out C4.out ks ?_)
                  intro v5 W5 own5 hg5 hw5
                  have N1 := Lib.hid (H8.out.put k4 own5 hg5 hw5)
                  clear own5 hg5 hw5 pu o4 k4 ks
                  go_wp2_with fail
                  go_meet
                  case rel => rw [if_pos hv0]; exact N1.out
                · have i1 : decide ((0 : Int) < (iv : Int)) = false := decide_eq_false (by omega)
                  have i1n : decide (0 < iv) = false := decide_eq_false hv0
                  go_wp2_with fail
                  go_meet
                  case rel => rw [if_neg hv0, List.append_nil]; exact H8.out
              case rest =>
                have HC5 := Lib.hid hcut
                obtain ⟨O6, hO6⟩ : ∃ O, O5 ++ (if 0 < iv then cb .gam rws1.length else []) = O := ⟨_, rfl⟩
                rw [hO6] at HC5
                have LY3 : Hid (lay x succ ref r p = O6 ++ bitsOf ((lnm x iv none rws1).map (fun v => (Cd.gam, v))) ++ bitsOf ((znm x none rst1).map (fun v => (Cd.zet zt, v)))) := Lib.hid (by rw [LY2.out, RB.out, ← hO6]; simp only [List.append_assoc])
                have AP := Lib.hid (show Apart iv none rws1 from by have h := (rws_ok iv L hRL).apart; rw [HRW.out] at h; exact h)
                obtain ⟨np, hnp⟩ : ∃ np, rws1.length = np := ⟨_, rfl⟩
                obtain ⟨nr, hnr⟩ : ∃ nr, rst1.length = nr := ⟨_, rfl⟩
                have NKL : Hid (∀ v ∈ lnm x iv none rws1, v < 262144) := Lib.hid (fun v hv => NKR.out (Cd.gam, v) (by
                  unfold restN
                  rw [if_neg hL0, hiv, HRW.out]
                  exact List.mem_append_left _ (List.mem_append_right _ (List.mem_map.2 ⟨v, hv, rfl⟩))))
                have NKZ : Hid (∀ v ∈ znm x none rst1, v < 262144) := Lib.hid (fun v hv => NKR.out (Cd.zet zt, v) (by
                  unfold restN
                  rw [if_neg hL0, hiv, hzt, HRW.out]
                  exact List.mem_append_right _ (List.mem_map.2 ⟨v, hv, rfl⟩)))
                have CLR : Hid (∀ k, (O6 ++ bitsOf ((lnm x iv none (rws1.take k)).map (fun v => (Cd.gam, v)))).length + (bitsOf ((znm x none rst1).map (fun v => (Cd.zet zt, v)))).length ≤ 5243040) := Lib.hid (fun k => by
                  have h1 := LL.out
                  rw [LY3.out] at h1
                  have h2 := bits_take_le ((lnm x iv none rws1).map (fun v => (Cd.gam, v))) (2 * k)
                  rw [← List.map_take, ← lnm_take] at h2
                  simp only [List.length_append] at h1 ⊢
                  omega)
                have hnp9 : np < 262144 := by
                  by_cases h0 : 0 < iv
                  · rw [← hnp]; exact NKR.out (Cd.gam, rws1.length) (by
                      unfold restN
                      rw [if_neg hL0, hiv, HRW.out, if_pos h0]
                      exact List.mem_append_left _ (List.mem_append_left _ (List.mem_singleton.2 rfl)))
                  · have h2 := apart_len _ _ AP.out
                    have h1 := (rws_ok iv L hRL).perm.length_eq
                    rw [List.length_append, sumLen, HRW.out] at h1
                    dsimp only at h1
                    omega
                have hnr9 : nr < 262144 := by
                  have h1 := (rws_ok iv L hRL).sub.length_le
                  rw [HRW.out] at h1
                  dsimp only at h1
                  omega
                have HNP := Lib.hid hnp
                have HNR := Lib.hid hnr
                rw [hnp, hnr]
                clear hcut hO6 H8 CL hnp hnr
                go_wp2_with fail
                go_loopw [11, 18] (fun v11 v18 wr => ∃ i : Nat, i ≤ np ∧ v18 = .int .i64 (i : Int) ∧ LO w ks2 (O6 ++ bitsOf ((lnm x iv none (rws1.take i)).map (fun v => (Cd.gam, v)))) v11 wr)
                  (fun _ v18 _ => np - (intOf v18).toNat)
                case atStart => exact ⟨0, Nat.zero_le _, rfl, by rw [List.take_zero]; unfold lnm; rw [List.map_nil, bitsOf_nil, List.append_nil]; exact HC5.out⟩
                case round =>
                  obtain ⟨i, hin, rfl, hT⟩ := hrel
                  rename World => wr
                  obtain ⟨s5, d5, rfl⟩ := own_shape hT.2.1
                  have HT := Lib.hid hT
                  clear hT
                  by_cases hlt : i < np
                  · --A1
                    have hip : i < rws1.length := by rw [HNP.out]; exact hlt
                    obtain ⟨g, rfl, p0⟩ := HC1.out wr (fun p hp => (HT.out.2.2 p hp).1) (i * 2) _ (piV_get rws1 i hip).1
                    obtain ⟨g', eg, p1⟩ := HC1.out wr (fun p hp => (HT.out.2.2 p hp).1) (i * 2 + 1) _ (piV_get rws1 i hip).2
                    obtain rfl : g' = g := by injection eg with eg; injection eg with eg; exact eg.symm
                    obtain ⟨b0, b1, b2, b3⟩ := Apart.get AP.out i hip
                    obtain ⟨f, hf⟩ : ∃ f, rws1[i].1 = f := ⟨_, rfl⟩
                    obtain ⟨n', hn'⟩ : ∃ n', rws1[i].2 = n' := ⟨_, rfl⟩
                    rw [hf] at p0 b2 b3
                    rw [hn'] at p1 b0 b1 b2
                    have TK : Hid (rws1.take (i + 1) = rws1.take i ++ [(f, n')]) := Lib.hid (by rw [List.take_succ_eq_append_getElem hip, ← hf, ← hn'])
                    have SN := Lib.hid (lnm_snoc x iv none (rws1.take i) f n')
                    rw [← TK.out] at SN
                    obtain ⟨v0, hv0⟩ : ∃ v0, frstN x (lend none (rws1.take i)) f = v0 := ⟨_, rfl⟩
                    rw [hv0] at SN
                    have V0 := Lib.hid hv0
                    obtain ⟨O7, hO7⟩ : ∃ O, O6 ++ bitsOf ((lnm x iv none (rws1.take i)).map (fun v => (Cd.gam, v))) = O := ⟨_, rfl⟩
                    rw [hO7] at HT ⊢
                    have LS : Hid (O6 ++ bitsOf ((lnm x iv none (rws1.take (i + 1))).map (fun v => (Cd.gam, v))) = O7 ++ cb .gam v0 ++ cb .gam (n' - iv)) := Lib.hid (by
                      rw [SN.out, List.map_append, bitsOf_append, ← List.append_assoc, hO7]
                      simp [bitsOf_cons, bitsOf_nil])
                    have CLi : O7.length + (cb .gam v0).length + (cb .gam (n' - iv)).length ≤ 5243040 := by
                      have h1 := CLR.out (i + 1)
                      have h2 := congrArg List.length LS.out
                      simp only [List.length_append] at h1 h2
                      omega
                    have hv9 : v0 < 262144 := NKL.out v0 (by
                      have h1 : v0 ∈ lnm x iv none (rws1.take (i + 1)) := by rw [SN.out]; exact List.mem_append_right _ (List.mem_cons_self ..)
                      rw [lnm_take] at h1
                      exact List.mem_of_mem_take h1)
                    have HN2 := Lib.hid hn'
                    clear hf hn' hO7 hv0 eg
                    have C3 : Hid (O7.length + (cb .gam v0).length ≤ maxLen) := Lib.hid (by simp only [maxLen]; omega)
                    have C4 : Hid ((O7.length + (cb .gam v0).length) * 1 ≤ 140737488355328) := Lib.hid (by omega)
                    have B3 := Lib.hid b3
                    clear b3
                    go_upto_if 117 with fail
                    go_cut [11] from 116 to 152 (fun v11 wc => LO w ks2 (O7 ++ cb .gam v0) v11 wc)
                    case first =>
                      by_cases h0 : i = 0
                      · subst h0
                        have ZG := Lib.hid (fun W => dzig_any f x (by omega) m5 W)
                        have V1 : Hid (zig ((f : Int) - (x : Int)) = v0) := Lib.hid (by rw [← V0.out, List.take_zero]; rfl)
                        rw [V1.out] at ZG
                        rw [Nat.zero_mul] at p0
                        go_wp2_with fail
                        with_reducible refine (ZG.out _).mono ?_
                        rintro e w2 ⟨rfl, rfl⟩
                        go_wp2_with fail
                        with_reducible refine (GA.out v0 (by omega) _).mono ?_
                        rintro e W6 ⟨v6, rfl, o6, k6⟩
                        have pu := HT.out.own k6
                        have ks := Nat.le_trans HT.out.low.size k6.size
                        go_wp2_with (at_builtin; refine wpList_append_row _ rfl _ _ 26 rfl w.heap.size wr.heap.size 4 i0 _ 1 Tryd.underlying26 hi hz0 hz1 hz2 rfl _ _ _ rfl pu _ _ _ rfl o6 (bls_one _) C3.out C4.out ks ?_)
                        intro v7 W7 own7 hg7 hw7
                        have N2 := Lib.hid (HT.out.put k6 own7 hg7 hw7)
                        clear own7 hg7 hw7 pu o6 k6 ks
                        go_wp2_with fail
                        go_meet
                        case rel => exact N2.out
                      · obtain ⟨j, hj⟩ : ∃ j, j + 1 = i := ⟨i - 1, by omega⟩
                        have hjp : j < rws1.length := by rw [HNP.out]; omega
                        obtain ⟨g2, eg, q0⟩ := HC1.out wr (fun p hp => (HT.out.2.2 p hp).1) (j * 2) _ (piV_get rws1 j hjp).1
                        obtain rfl : g' = g2 := by injection eg with eg; injection eg with eg
                        obtain ⟨g2, eg, q1⟩ := HC1.out wr (fun p hp => (HT.out.2.2 p hp).1) (j * 2 + 1) _ (piV_get rws1 j hjp).2
                        obtain rfl : g' = g2 := by injection eg with eg; injection eg with eg
                        obtain ⟨c0, c1, c2, c3⟩ := Apart.get AP.out j hjp
                        have LD : lend none (rws1.take i) = some (rws1[j].1 + rws1[j].2 - 1) := by
                          rw [← hj, List.take_succ_eq_append_getElem hjp]
                          exact lend_snoc _ _ _ _
                        have b4 := B3.out _ LD
                        have V1 := V0.out
                        rw [LD] at V1
                        change f - _ - 2 = v0 at V1
                        obtain ⟨f2, hf2⟩ : ∃ f, rws1[j].1 = f := ⟨_, rfl⟩
                        obtain ⟨n2, hn2⟩ : ∃ n, rws1[j].2 = n := ⟨_, rfl⟩
                        rw [hf2] at q0 c2 b4 V1
                        rw [hn2] at q1 c0 c1 c2 b4 V1
                        have a1 : IntKind.i64.wrap ((i : Int) - 1) = (j : Int) := by rw [IntWalk.i64_in _ (by omega)]; omega
                        have a2 : (j : Int) < (np : Int) := by omega
                        have a3 : (0 : Int) ≤ (j : Int) := Int.natCast_nonneg _
                        have hib : ((i : Int) == 0) = false := beq_eq_false_iff_ne.2 (by omega)
                        clear hf2 hn2 LD eg
                        go_upto_region 31 with fail
                        have Z5 := Lib.hid (gap_wrap f f2 n2 v0 (by omega) (by omega) V1 ⟨b4, c1⟩)
                        clear V1 b4 c0 c1 c2 c3 eg b0 b2
                        have HTD : Hid (LO w ks2 O7 (.slice s5 O7.length d5) wr.drew) := Lib.hid (LG.drew HT.out)
                        --R31
                        go_region_law (first
                          | (go_simp; go_at_call 63; rw [Z5.out]; (with_reducible refine (GA.out v0 (by omega) _).mono ?_); rintro e W6 ⟨v6, rfl, o6, k6⟩; have pu := HTD.out.own k6; have ks := Nat.le_trans HTD.out.low.size k6.size; dsimp only)
                          | (refine wp_append_row _ (by rfl) (.tmp 127) (.tmp 151) 26 rfl w.heap.size wr.heap.size 4 i0 (.bool false) 1 Tryd.underlying26 hi hz0 hz1 hz2 rfl _ _ _ rfl pu _ _ _ rfl o6 (bls_one _) C3.out C4.out ks ?_; intro v7 W7 own7 hg7 hw7; have N2 := Lib.hid (HTD.out.put k6 own7 hg7 hw7); obtain ⟨a3, cap3, rfl⟩ := own_shape own7; clear own7 hg7 hw7))
                        all_goals
                          go_wp2_with fail
                          go_meet
                        all_goals exact N2.out
                    case rest =>
                      have HU := Lib.hid hcut
                      rename World => wq
                      obtain ⟨s9, d9', rfl⟩ := own_shape HU.out.2.1
                      clear hcut HT p0 p1
                      obtain ⟨g2, eg, p1⟩ := HC1.out wq (fun p hp => (HU.out.2.2 p hp).1) (i * 2 + 1) _ (piV_get rws1 i hip).2
                      obtain rfl : g' = g2 := by injection eg with eg; injection eg with eg
                      have q1 : wq.cell? ⟨w.heap.size, 1, none⟩ = some (.int .i64 (iv : Int)) := by rw [cell_of_row _ _ _ _ _ _ (HU.out.row PB.out)]; rfl
                      obtain ⟨O8, hO8⟩ : ∃ O, O7 ++ cb .gam v0 = O := ⟨_, rfl⟩
                      obtain ⟨d, hd⟩ : ∃ d, n' - iv = d := ⟨_, rfl⟩
                      rw [HN2.out] at p1
                      rw [hO8] at HU LS ⊢
                      rw [hd] at LS CLi
                      have CL8 : O8.length + (cb .gam d).length ≤ 5243040 := by rw [← hO8, List.length_append]; omega
                      have C3 : Hid (O8.length + (cb .gam d).length ≤ maxLen) := Lib.hid (by simp only [maxLen]; omega)
                      have C4 : Hid ((O8.length + (cb .gam d).length) * 1 ≤ 140737488355328) := Lib.hid (by omega)
                      have Z6 : Hid (IntKind.i64.wrap ((n' : Int) - (iv : Int)) = (d : Int)) := Lib.hid (by rw [IntWalk.i64_in _ (by omega)]; omega)
                      have d9 : d < 262144 := by omega
                      clear hO8 hd CLi CL8 eg b0 b1 b2 hv9
                      go_upto_region 32 with fail
                      have HTD : Hid (LO w ks2 O8 (.slice s9 O8.length d9') wq.drew) := Lib.hid (LG.drew HU.out)
                      --R32
                      go_region_law (first
                        | (go_simp; go_at_call 63; rw [Z6.out]; (with_reducible refine (GA.out d (by omega) _).mono ?_); rintro e W6 ⟨v6, rfl, o6, k6⟩; have pu := HTD.out.own k6; have ks := Nat.le_trans HTD.out.low.size k6.size; dsimp only)
                        | (refine wp_append_row _ (by rfl) (.tmp 153) (.tmp 162) 26 rfl w.heap.size wq.heap.size 4 i0 (.bool false) 1 Tryd.underlying26 hi hz0 hz1 hz2 rfl _ _ _ rfl pu _ _ _ rfl o6 (bls_one _) C3.out C4.out ks ?_; intro v7 W7 own7 hg7 hw7; have N2 := Lib.hid (HTD.out.put k6 own7 hg7 hw7); obtain ⟨a3, cap3, rfl⟩ := own_shape own7; clear own7 hg7 hw7))
                      all_goals
                        go_wp2_with fail
                        go_roundw
                      all_goals first | exact ⟨i + 1, hlt, by go_num, by rw [LS.out]; exact N2.out⟩ | (simp [intOf]; omega)
                  · have hie : i = np := by omega
                    subst hie
                    have i5 : decide ((i : Int) < (i : Int)) = false := decide_eq_false (by omega)
                    have TK : Hid (rws1.take i = rws1) := Lib.hid (List.take_of_length_le (by rw [HNP.out]; exact Nat.le_refl _))
                    rw [TK.out] at HT
                    obtain ⟨O7, hO7⟩ : ∃ O, O6 ++ bitsOf ((lnm x iv none rws1).map (fun v => (Cd.gam, v))) = O := ⟨_, rfl⟩
                    rw [TK.out, hO7]
                    rw [hO7] at HT LY3
                    clear hO7
                    have c2 : wr.cell? ⟨w.heap.size, 2, none⟩ = some (.int .i64 (zt : Int)) := by rw [cell_of_row _ _ _ _ _ _ (HT.out.row PB.out)]; rfl
                    have zw : IntKind.u64.wrap (zt : Int) = (zt : Int) := IntWalk.u64_in _ (by omega)
                    have HLr : Hid (Ris rst1) := Lib.hid (by
                      have h1 := (rws_ok iv L hRL).sub
                      rw [HRW.out] at h1
                      exact ⟨hRL.1.sublist h1, fun v hv => hRL.2 v (h1.subset hv)⟩)
                    go_upto_region 34 with fail
                    have H9 : Hid (LO w ((wr.heap.size, .cells #[.int .u8 3, .int .u64 (zt : Int)] 137 (0, 0)) :: ks2) O7 (.slice s5 O7.length d5) (wr.alloc (.cells #[.int .u8 3, .int .u64 (zt : Int)] 137))) := Lib.hid (LG.keep HT.out _ _)
                    generalize hzb : wr.heap.size = zb at H9 ⊢
                    generalize World.alloc wr _ = W9 at H9 ⊢
                    clear hzb c2 zw HT HC1
                    obtain ⟨B, hB⟩ : ∃ B, znm x none rst1 = B := ⟨_, rfl⟩
                    have ZT := Lib.hid (fun k => znm_take x k none rst1)
                    have HB := Lib.hid hB
                    have CLZ : Hid (∀ k, (O7 ++ bitsOf ((znm x none (rst1.take k)).map (fun v => (Cd.zet zt, v)))).length ≤ 5243040) := Lib.hid (fun k => by
                      have h1 := LL.out
                      rw [LY3.out, List.length_append] at h1
                      have h2 := bits_take_le ((znm x none rst1).map (fun v => (Cd.zet zt, v))) k
                      rw [← List.map_take, ← znm_take] at h2
                      rw [List.length_append]
                      omega)
                    clear hB
                    go_wp2_with fail
                    go_loopw [11, 20] (fun v11 v20 wr => ∃ i : Nat, i ≤ nr ∧ v20 = .int .i64 (i : Int) ∧ LO w ((zb, .cells #[.int .u8 3, .int .u64 (zt : Int)] 137 (0, 0)) :: ks2) (O7 ++ bitsOf ((znm x none (rst1.take i)).map (fun v => (Cd.zet zt, v)))) v11 wr)
                      (fun _ v20 _ => nr - (intOf v20).toNat)
                    case atStart => exact ⟨0, Nat.zero_le _, rfl, by rw [List.take_zero]; unfold znm; rw [List.map_nil, bitsOf_nil, List.append_nil]; exact H9.out⟩
                    case round =>
                      obtain ⟨j, hjn, rfl, hU⟩ := hrel
                      rename World => wq
                      obtain ⟨s9, d9, rfl⟩ := own_shape hU.2.1
                      have HU := Lib.hid hU
                      clear hU H9
                      by_cases hjt : j < nr
                      · have hjr : j < rst1.length := by rw [HNR.out]; exact hjt
                        obtain ⟨g, rfl, p0⟩ := HC2.out wq (fun p hp => (HU.out.2.2 p (List.mem_cons_of_mem _ hp)).1) j (.int .u32 (rst1[j] : Int)) (by unfold u32V; rw [List.getElem?_map, List.getElem?_eq_getElem hjr]; rfl)
                        obtain ⟨v, hv⟩ : ∃ v, rst1[j] = v := ⟨_, rfl⟩
                        have hvb : v < 65536 := by rw [← hv]; exact HLr.out.2 _ (List.getElem_mem hjr)
                        rw [hv] at p0
                        have TK : Hid (rst1.take (j + 1) = rst1.take j ++ [v]) := Lib.hid (by rw [List.take_succ_eq_append_getElem hjr, hv])
                        obtain ⟨v0, hv0⟩ : ∃ v0, resN x (rst1.take j).getLast? v = v0 := ⟨_, rfl⟩
                        have SN : Hid (znm x none (rst1.take (j + 1)) = znm x none (rst1.take j) ++ [v0]) := Lib.hid (by rw [TK.out, znm_snoc, ← hv0]; cases (rst1.take j).getLast? <;> rfl)
                        have V0 := Lib.hid hv0
                        have hv9 : v0 < 262144 := NKZ.out v0 (by
                          have h1 : v0 ∈ znm x none (rst1.take (j + 1)) := by rw [SN.out]; exact List.mem_append_right _ (List.mem_cons_self ..)
                          rw [znm_take] at h1
                          exact List.mem_of_mem_take h1)
                        obtain ⟨O8, hO8⟩ : ∃ O, O7 ++ bitsOf ((znm x none (rst1.take j)).map (fun v => (Cd.zet zt, v))) = O := ⟨_, rfl⟩
                        rw [hO8] at HU ⊢
                        have LS : Hid (O7 ++ bitsOf ((znm x none (rst1.take (j + 1))).map (fun v => (Cd.zet zt, v))) = O8 ++ cb (.zet zt) v0) := Lib.hid (by
                          rw [SN.out, List.map_append, bitsOf_append, ← List.append_assoc, hO8]
                          simp [bitsOf_cons, bitsOf_nil])
                        have CL8 : O8.length + (cb (.zet zt) v0).length ≤ 5243040 := by
                          have h1 := CLZ.out (j + 1)
                          rw [LS.out, List.length_append] at h1
                          exact h1
                        have C3 : Hid (O8.length + (cb (.zet zt) v0).length ≤ maxLen) := Lib.hid (by simp only [maxLen]; omega)
                        have C4 : Hid ((O8.length + (cb (.zet zt) v0).length) * 1 ≤ 140737488355328) := Lib.hid (by omega)
                        have BZ := Lib.hid (fun W => dbits_zet zt v0 (by omega) (by omega) (by omega) W)
                        clear hv0 hO8 CL8
                        by_cases h0 : j = 0
                        · subst h0
                          have ZG := Lib.hid (fun W => dzig_any v x hvb m5 W)
                          have V1 : Hid (zig ((v : Int) - (x : Int)) = v0) := Lib.hid (by rw [← V0.out, List.take_zero]; rfl)
                          rw [V1.out] at ZG
                          have Z7 : Hid (IntKind.u64.wrap (v0 : Int) = (v0 : Int)) := Lib.hid (IntWalk.u64_in _ (by omega))
                          clear hv
                          go_upto_region 38 with fail
                          have HTD : Hid (LO w ((zb, .cells #[.int .u8 3, .int .u64 (zt : Int)] 137 (0, 0)) :: ks2) O8 (.slice s9 O8.length d9) wq.drew) := Lib.hid (LG.drew HU.out)
                          have r9 := HTD.out.row (List.mem_cons_self ..)
                          have c0 : wq.drew.cell? ⟨zb, 0, none⟩ = some (.int .u8 3) := by rw [cell_of_row _ _ _ _ _ _ r9]; rfl
                          have c1 : wq.drew.cell? ⟨zb, 1, none⟩ = some (.int .u64 (zt : Int)) := by rw [cell_of_row _ _ _ _ _ _ r9]; rfl
                          clear r9
                          --R38
                          go_region_law (first
                            | (go_simp; go_at_call 68; (with_reducible refine (ZG.out _).mono ?_); rintro e W6 ⟨rfl, rfl⟩; dsimp only)
                            | (go_simp; go_at_call 64; rw [Z7.out]; (with_reducible refine (BZ.out _).mono ?_); rintro e W6 ⟨v6, rfl, o6, k6⟩; have pu := HTD.out.own k6; have ks := Nat.le_trans HTD.out.low.size k6.size; dsimp only)
                            | (refine wp_append_row _ (by rfl) (.tmp 176) (.tmp 184) 26 rfl w.heap.size wq.heap.size 4 i0 (.bool false) 1 Tryd.underlying26 hi hz0 hz1 hz2 rfl _ _ _ rfl pu _ _ _ rfl o6 (bls_one _) C3.out C4.out ks ?_; intro v7 W7 own7 hg7 hw7; have N2 := Lib.hid (HTD.out.put k6 own7 hg7 hw7); obtain ⟨a3, cap3, rfl⟩ := own_shape own7; clear own7 hg7 hw7))
                          all_goals
                            go_wp2_with fail
                            go_roundw
                          all_goals first | exact ⟨0 + 1, hjt, by go_num, by rw [LS.out]; exact N2.out⟩ | (simp [intOf]; omega)
                        · obtain ⟨q, hq⟩ : ∃ q, q + 1 = j := ⟨j - 1, by omega⟩
                          have hqr : q < rst1.length := by rw [HNR.out]; omega
                          obtain ⟨g2, eg, q0⟩ := HC2.out wq (fun p hp => (HU.out.2.2 p (List.mem_cons_of_mem _ hp)).1) q (.int .u32 (rst1[q] : Int)) (by unfold u32V; rw [List.getElem?_map, List.getElem?_eq_getElem hqr]; rfl)
                          obtain rfl : g = g2 := by injection eg with eg; injection eg with eg
                          have huv : rst1[q] < v := by
                            have h2 := List.pairwise_iff_getElem.1 HLr.out.1 q j hqr hjr (by omega)
                            omega
                          have V1 := V0.out
                          have LD : (rst1.take j).getLast? = some rst1[q] := by rw [← hq, List.take_succ_eq_append_getElem hqr, List.getLast?_concat]
                          rw [LD] at V1
                          change v - _ - 1 = v0 at V1
                          obtain ⟨u, hu⟩ : ∃ u, rst1[q] = u := ⟨_, rfl⟩
                          rw [hu] at q0 huv V1
                          have a1 : IntKind.i64.wrap ((j : Int) - 1) = (q : Int) := by rw [IntWalk.i64_in _ (by omega)]; omega
                          have a2 : (q : Int) < (nr : Int) := by omega
                          have a3 : (0 : Int) ≤ (q : Int) := Int.natCast_nonneg _
                          have hib : ((j : Int) == 0) = false := beq_eq_false_iff_ne.2 (by omega)
                          have Z8 := Lib.hid (rest_wrap v u v0 hvb huv V1)
                          clear hu LD V1 huv eg hv hvb
                          go_upto_region 39 with fail
                          have HTD : Hid (LO w ((zb, .cells #[.int .u8 3, .int .u64 (zt : Int)] 137 (0, 0)) :: ks2) O8 (.slice s9 O8.length d9) wq.drew) := Lib.hid (LG.drew HU.out)
                          have r9 := HTD.out.row (List.mem_cons_self ..)
                          have c0 : wq.drew.cell? ⟨zb, 0, none⟩ = some (.int .u8 3) := by rw [cell_of_row _ _ _ _ _ _ r9]; rfl
                          have c1 : wq.drew.cell? ⟨zb, 1, none⟩ = some (.int .u64 (zt : Int)) := by rw [cell_of_row _ _ _ _ _ _ r9]; rfl
                          clear r9
                          --R39
                          go_region_law (first
                            | (go_simp; go_at_call 64; rw [Z8.out]; (with_reducible refine (BZ.out _).mono ?_); rintro e W6 ⟨v6, rfl, o6, k6⟩; have pu := HTD.out.own k6; have ks := Nat.le_trans HTD.out.low.size k6.size; dsimp only)
                            | (refine wp_append_row _ (by rfl) (.tmp 186) (.tmp 200) 26 rfl w.heap.size wq.heap.size 4 i0 (.bool false) 1 Tryd.underlying26 hi hz0 hz1 hz2 rfl _ _ _ rfl pu _ _ _ rfl o6 (bls_one _) C3.out C4.out ks ?_; intro v7 W7 own7 hg7 hw7; have N2 := Lib.hid (HTD.out.put k6 own7 hg7 hw7); obtain ⟨a3, cap3, rfl⟩ := own_shape own7; clear own7 hg7 hw7))
                          all_goals
                            go_wp2_with fail
                            go_roundw
                          all_goals first | exact ⟨j + 1, hjt, by go_num, by rw [LS.out]; exact N2.out⟩ | (simp [intOf]; omega)
                      · have hje : j = nr := by omega
                        subst hje
                        have i5 : decide ((j : Int) < (j : Int)) = false := decide_eq_false (by omega)
                        have TK : Hid (rst1.take j = rst1) := Lib.hid (List.take_of_length_le (by rw [HNR.out]; exact Nat.le_refl _))
                        have FIN : Hid (lay x succ ref r p = O7 ++ bitsOf ((znm x none (rst1.take j)).map (fun v => (Cd.zet zt, v)))) := Lib.hid (by rw [TK.out, LY3.out])
                        go_wp2_with fail
                        go_ret
                        rw [FIN.out]
                        exact HU.out.post
end Go.Proofs.YtflnpcgnenhogaaDoor.ls
namespace Go.Proofs.YtflnpcgnenhogaaDoor.ls
open Go.RowKit Go.Proofs.YtflnpcgnenhogaaDoor.own Go.Proofs.YtflnpcgnenhogaaDoor.bit

set_option maxRecDepth 100000 in
set_option maxHeartbeats 3200000 in
theorem dcheck_any (win itv zet : Int) (w : World) : Calls Tryd.prog 17 #[parV win itv zet] w fun e w' => e = .returned (.int .i64 (if ParOk win itv zet then 0 else 1)) ∧ Below w.heap.size w w' := by
  unfold parV
  obtain ⟨k, hk⟩ : ∃ k : Int, (if ParOk win itv zet then 0 else 1) = k := ⟨_, rfl⟩
  rw [hk]
  have HK := Lib.hid hk
  clear hk
  have YES : Hid (ParOk win itv zet → k = 0) := Lib.hid (fun h => by have := HK.out; rw [if_pos h] at this; exact this.symm)
  have NO : Hid (¬ ParOk win itv zet → k = 1) := Lib.hid (fun h => by have := HK.out; rw [if_neg h] at this; exact this.symm)
  clear HK
  by_cases h1 : win < 0
  ·
    obtain rfl := NO.out (fun h => by have := h.1; omega)
    clear YES NO
    go_enter Tryd.func17, Tryd.ntmps17
    go_wp2_with fail
    go_ret
    exact ⟨rfl, (by repeat (first | exact Below.refl _ _ | refine below_drewN ?_ _ | refine Below.setCell ?_ (by simp; try omega) _ | refine Below.alloc ?_ (by simp; try omega) _))⟩
  by_cases h2 : 16 < win
  ·
    obtain rfl := NO.out (fun h => by have := h.2.1; omega)
    clear YES NO
    go_enter Tryd.func17, Tryd.ntmps17
    go_wp2_with fail
    go_ret
    exact ⟨rfl, (by repeat (first | exact Below.refl _ _ | refine below_drewN ?_ _ | refine Below.setCell ?_ (by simp; try omega) _ | refine Below.alloc ?_ (by simp; try omega) _))⟩
  by_cases h5 : itv = 0
  · subst h5
    have h5' : ((0 : Int) != 0) = false := rfl
    by_cases h3 : zet < 1
    ·
      obtain rfl := NO.out (fun h => by have := h.2.2.2.1; omega)
      clear YES NO
      go_enter Tryd.func17, Tryd.ntmps17
      go_wp2_with fail
      go_ret
      exact ⟨rfl, (by repeat (first | exact Below.refl _ _ | refine below_drewN ?_ _ | refine Below.setCell ?_ (by simp; try omega) _ | refine Below.alloc ?_ (by simp; try omega) _))⟩
    by_cases h4 : 16 < zet
    ·
      obtain rfl := NO.out (fun h => by have := h.2.2.2.2; omega)
      clear YES NO
      go_enter Tryd.func17, Tryd.ntmps17
      go_wp2_with fail
      go_ret
      exact ⟨rfl, (by repeat (first | exact Below.refl _ _ | refine below_drewN ?_ _ | refine Below.setCell ?_ (by simp; try omega) _ | refine Below.alloc ?_ (by simp; try omega) _))⟩
    obtain rfl := YES.out ⟨by omega, by omega, .inl rfl, by omega, by omega⟩
    clear YES NO
    go_enter Tryd.func17, Tryd.ntmps17
    go_wp2_with fail
    go_ret
    exact ⟨rfl, (by repeat (first | exact Below.refl _ _ | refine below_drewN ?_ _ | refine Below.setCell ?_ (by simp; try omega) _ | refine Below.alloc ?_ (by simp; try omega) _))⟩
  have h5' : (itv != 0) = true := by simpa using h5
  by_cases h6 : itv < 2
  ·
    obtain rfl := NO.out (fun h => by have := h.2.2.1; omega)
    clear YES NO
    go_enter Tryd.func17, Tryd.ntmps17
    go_wp2_with fail
    go_ret
    exact ⟨rfl, (by repeat (first | exact Below.refl _ _ | refine below_drewN ?_ _ | refine Below.setCell ?_ (by simp; try omega) _ | refine Below.alloc ?_ (by simp; try omega) _))⟩
  by_cases h7 : 64 < itv
  ·
    obtain rfl := NO.out (fun h => by have := h.2.2.1; omega)
    clear YES NO
    go_enter Tryd.func17, Tryd.ntmps17
    go_wp2_with fail
    go_ret
    exact ⟨rfl, (by repeat (first | exact Below.refl _ _ | refine below_drewN ?_ _ | refine Below.setCell ?_ (by simp; try omega) _ | refine Below.alloc ?_ (by simp; try omega) _))⟩
  by_cases h3 : zet < 1
  ·
    obtain rfl := NO.out (fun h => by have := h.2.2.2.1; omega)
    clear YES NO
    go_enter Tryd.func17, Tryd.ntmps17
    go_wp2_with fail
    go_ret
    exact ⟨rfl, (by repeat (first | exact Below.refl _ _ | refine below_drewN ?_ _ | refine Below.setCell ?_ (by simp; try omega) _ | refine Below.alloc ?_ (by simp; try omega) _))⟩
  by_cases h4 : 16 < zet
  ·
    obtain rfl := NO.out (fun h => by have := h.2.2.2.2; omega)
    clear YES NO
    go_enter Tryd.func17, Tryd.ntmps17
    go_wp2_with fail
    go_ret
    exact ⟨rfl, (by repeat (first | exact Below.refl _ _ | refine below_drewN ?_ _ | refine Below.setCell ?_ (by simp; try omega) _ | refine Below.alloc ?_ (by simp; try omega) _))⟩
  obtain rfl := YES.out ⟨by omega, by omega, .inr ⟨by omega, by omega⟩, by omega, by omega⟩
  clear YES NO
  go_enter Tryd.func17, Tryd.ntmps17
  go_wp2_with fail
  go_ret
  exact ⟨rfl, (by repeat (first | exact Below.refl _ _ | refine below_drewN ?_ _ | refine Below.setCell ?_ (by simp; try omega) _ | refine Below.alloc ?_ (by simp; try omega) _))⟩
set_option maxRecDepth 100000 in
set_option maxHeartbeats 1600000 in
theorem dsucc_any (w : World) (a : Option Addr) (l : List Nat) (cap : Nat) (h : LV w a l) : Calls Tryd.prog 62 #[.slice a l.length cap] w (YesNoB (Ris l) w) := by
  have H := Lib.hid h.2
  have hz := h.1
  have R := Lib.hid (ris_iff l)
  clear h
  obtain ⟨n, hn⟩ : ∃ n, l.length = n := ⟨_, rfl⟩
  have HN := Lib.hid hn
  rw [hn] at hz ⊢
  clear hn
  go_enter Tryd.func62, Tryd.ntmps62
  go_wp2_with fail
  go_loopw [3] (fun vi wr => ∃ i : Nat, vi = .int .i64 (i : Int) ∧ i ≤ n ∧ (∃ q, wr = w.drewN q) ∧ ∀ j (hj : j < l.length), j < i → l[j] < 65536 ∧ ∀ h0 : 0 < j, l[j - 1] < l[j]) (fun vi _ => n - (intOf vi).toNat)
  case atStart => exact ⟨0, rfl, Nat.zero_le _, ⟨0, rfl⟩, fun j _ h => by omega⟩
  case round =>
    obtain ⟨i, rfl, hi, ⟨q, rfl⟩, hj⟩ := hrel
    have HJ := Lib.hid hj
    clear hj
    by_cases hlt : i < n
    · obtain ⟨g, o, rfl, hg, hc, hb⟩ := H.out i (by rw [HN.out]; exact hlt)
      obtain ⟨v, hv⟩ : ∃ v, l[i]'(by rw [HN.out]; exact hlt) = v := ⟨_, rfl⟩
      rw [hv] at hc hb
      have HV := Lib.hid hv
      have i1 : decide ((i : Int) < (n : Int)) = true := decide_eq_true (by omega)
      by_cases h65 : v < 65536
      · have j1 : decide ((65536 : Int) ≤ (v : Int)) = false := decide_eq_false (by omega)
        by_cases h0 : 0 < i
        · obtain ⟨g', o', he, hg', hc', hb'⟩ := H.out (i - 1) (by rw [HN.out]; omega)
          obtain ⟨rfl, rfl⟩ : g' = g ∧ o' = o := by injection he with he; injection he with e1 e2; exact ⟨e1.symm, e2.symm⟩
          obtain ⟨u, hu⟩ : ∃ u, l[i - 1]'(by rw [HN.out]; omega) = u := ⟨_, rfl⟩
          rw [hu] at hc' hb'
          have HU := Lib.hid hu
          have j2 : decide ((0 : Int) < (i : Int)) = true := decide_eq_true (by omega)
          have j2n : decide (0 < i) = true := decide_eq_true h0
          have j3 : IntKind.i64.wrap ((i : Int) - 1) = ((i - 1 : Nat) : Int) := by rw [IntWalk.i64_in _ (by omega)]; omega
          have j4 : ((i - 1 : Nat) : Int) < (n : Int) := by omega
          have j5 : (0 : Int) ≤ ((i - 1 : Nat) : Int) := Int.natCast_nonneg _
          clear hv hu he
          by_cases huv : u < v
          · have j6 : decide ((v : Int) ≤ (u : Int)) = false := decide_eq_false (by omega)
            go_upto_region 4 with fail
            go_quiet (fail)
            go_wp2_with fail
            go_roundw
            case rel =>
              refine ⟨i + 1, by go_num, by omega, ⟨_, (by first | rfl | exact drewN_add _ _ _)⟩, fun j hj hji => ?_⟩
              by_cases hji2 : j = i
              · subst hji2
                have e1 := HV.out
                have e2 := HU.out
                exact ⟨by omega, fun _ => by omega⟩
              · exact HJ.out j hj (by omega)
            case measure => simp [intOf]; omega
          · have j6 : decide ((v : Int) ≤ (u : Int)) = true := decide_eq_true (by omega)
            go_upto_region 4 with fail
            go_quiet (fail)
            go_wp2_with fail
            go_ret
            refine ⟨false, rfl, ?_, ⟨rfl, rfl, rfl, Nat.le_refl _, fun _ _ => rfl⟩⟩
            rw [R.out]
            refine ⟨fun h => (by cases h), fun h => ?_⟩
            have h1 := (h i (by rw [HN.out]; exact hlt)).2 h0
            have e1 := HV.out
            have e2 := HU.out
            omega
        · have j2 : decide ((0 : Int) < (i : Int)) = false := decide_eq_false (by omega)
          have j2n : decide (0 < i) = false := decide_eq_false h0
          clear hv
          go_upto_region 4 with fail
          go_quiet (fail)
          go_wp2_with fail
          go_roundw
          case rel =>
            refine ⟨i + 1, by go_num, by omega, ⟨_, (by first | rfl | exact drewN_add _ _ _)⟩, fun j hj hji => ?_⟩
            by_cases hji2 : j = i
            · subst hji2
              have e1 := HV.out
              exact ⟨by omega, fun h => absurd h h0⟩
            · exact HJ.out j hj (by omega)
          case measure => simp [intOf]; omega
      · have j1 : decide ((65536 : Int) ≤ (v : Int)) = true := decide_eq_true (by omega)
        clear hv
        go_upto_region 4 with fail
        go_quiet (fail)
        go_wp2_with fail
        go_ret
        refine ⟨false, rfl, ?_, ⟨rfl, rfl, rfl, Nat.le_refl _, fun _ _ => rfl⟩⟩
        rw [R.out]
        refine ⟨fun h => (by cases h), fun h => ?_⟩
        have h1 := (h i (by rw [HN.out]; exact hlt)).1
        have e1 := HV.out
        omega
    · have i1 : decide ((i : Int) < (n : Int)) = false := decide_eq_false (by omega)
      go_wp2_with fail
      go_ret
      refine ⟨true, rfl, ?_, ⟨rfl, rfl, rfl, Nat.le_refl _, fun _ _ => rfl⟩⟩
      rw [R.out]
      exact ⟨fun _ j hj => HJ.out j hj (by rw [HN.out] at hj; omega), fun _ => rfl⟩

set_option maxRecDepth 100000 in
set_option maxHeartbeats 3200000 in
theorem dmay_any (win itv zet x : Int) (w : World) (a : Option Addr) (l : List Nat) (cap : Nat) (h : LV w a l) (b : Option Addr) (m : List Nat) (capb : Nat) (hb : LV w b m) (r : Int) :
    Calls Tryd.prog 37 #[.int .i64 x, .slice a l.length cap, .slice b m.length capb, .int .i64 r, parV win itv zet] w (YesNoB (MayI win itv zet x l m r) w) := by
  have CK := Lib.hid (fun W => dcheck_any win itv zet W)
  have S1 := Lib.hid (fun W (k : Below w.heap.size w W) => dsucc_any W a l cap (h.below k))
  have S2 := Lib.hid (fun W (k : Below w.heap.size w W) => dsucc_any W b m capb (hb.below k))
  obtain ⟨P, hP⟩ : ∃ P, MayI win itv zet x l m r = P := ⟨_, rfl⟩
  have HP := Lib.hid hP
  rw [hP]
  have hm0 : (m = [] ↔ m.length = 0) := List.length_eq_zero_iff.symm
  have HM0 := Lib.hid hm0
  unfold MayI at HP
  clear h hb hP hm0
  by_cases hp : ParOk win itv zet
  · rw [if_pos hp] at CK
    by_cases hx : 0 ≤ x ∧ x < 65536
    · obtain ⟨hx1, hx2⟩ := id hx
      unfold parV at CK ⊢
      go_enter Tryd.func37, Tryd.ntmps37
      go_wp2_with fail
      with_reducible refine (CK.out _).mono ?_
      rintro e w1 ⟨rfl, k1⟩
      have r1 := box_keeps k1
      have c0 : w1.cell? ⟨w.heap.size, 0, none⟩ = some (.int .i64 win) := by rw [cell_of_row _ _ _ _ _ _ r1]; rfl
      have K1 := Lib.hid (below_alloc k1)
      have R1 := Lib.hid r1
      clear r1 k1
      go_wp2_with fail
      with_reducible refine (S1.out _ K1.out).mono ?_
      rintro e w2 ⟨b1, rfl, hb1, k2⟩
      have c0 : w2.cell? ⟨w.heap.size, 0, none⟩ = some (.int .i64 win) := by rw [cell_of_row _ _ _ _ _ _ ((k2.block _ (lt_of_block R1.out)).trans R1.out)]; rfl
      have R1 := Lib.hid ((k2.block _ (lt_of_block R1.out)).trans R1.out)
      have K1 := Lib.hid (K1.out.trans (k2.mono K1.out.size))
      clear k2
      have HB1 := Lib.hid hb1
      clear hb1
      cases b1
      · have NP : Hid (¬ P) := Lib.hid (by rw [← HP.out]; intro h; have := HB1.out.2 h.2.2.1; cases this)
        go_wp2_with fail
        go_ret
        exact YesNoB.no NP.out K1.out
      · go_wp2_with fail
        with_reducible refine (S2.out _ K1.out).mono ?_
        rintro e w2 ⟨b2, rfl, hb2, k2⟩
        have c0 : w2.cell? ⟨w.heap.size, 0, none⟩ = some (.int .i64 win) := by rw [cell_of_row _ _ _ _ _ _ ((k2.block _ (lt_of_block R1.out)).trans R1.out)]; rfl
        have K1 := Lib.hid (K1.out.trans (k2.mono K1.out.size))
        clear k2
        have HB2 := Lib.hid hb2
        clear hb2
        cases b2
        · have NP : Hid (¬ P) := Lib.hid (by rw [← HP.out]; intro h; have := HB2.out.2 h.2.2.2.1; cases this)
          go_wp2_with fail
          go_ret
          exact YesNoB.no NP.out K1.out
        · by_cases hr0 : 0 ≤ r
          · by_cases hrw : r ≤ win
            · by_cases hr1 : 0 < r
              · have NP : Hid (P) := Lib.hid (by rw [← HP.out]; exact ⟨hp, hx, HB1.out.1 (by trivial), HB2.out.1 (by trivial), hr0, hrw, .inl hr1⟩)
                go_wp2_with fail
                go_ret
                exact YesNoB.yes NP.out K1.out
              · have hd : decide (0 < r) = false := decide_eq_false hr1
                by_cases hm : m.length = 0
                · have hm2 : ((m.length : Int) == 0) = true := by rw [hm]; rfl
                  have NP : Hid (P) := Lib.hid (by rw [← HP.out]; exact ⟨hp, hx, HB1.out.1 (by trivial), HB2.out.1 (by trivial), hr0, hrw, .inr (HM0.out.2 hm)⟩)
                  go_wp2_with fail
                  go_ret
                  exact YesNoB.yes NP.out K1.out
                · have hm2 : ((m.length : Int) == 0) = false := beq_eq_false_iff_ne.2 (by omega)
                  have NP : Hid (¬ P) := Lib.hid (by rw [← HP.out]; intro h; rcases h.2.2.2.2.2.2 with h1 | h1; exact hr1 h1; exact hm (HM0.out.1 h1))
                  go_wp2_with fail
                  go_ret
                  exact YesNoB.no NP.out K1.out
            · have NP : Hid (¬ P) := Lib.hid (by rw [← HP.out]; intro h; exact hrw h.2.2.2.2.2.1)
              go_wp2_with fail
              go_ret
              exact YesNoB.no NP.out K1.out
          · have NP : Hid (¬ P) := Lib.hid (by rw [← HP.out]; intro h; exact hr0 h.2.2.2.2.1)
            go_wp2_with fail
            go_ret
            exact YesNoB.no NP.out K1.out
    · by_cases hx1 : 0 ≤ x
      · have hx2 : ¬ x < 65536 := fun h => hx ⟨hx1, h⟩
        unfold parV at CK ⊢
        go_enter Tryd.func37, Tryd.ntmps37
        go_wp2_with fail
        with_reducible refine (CK.out _).mono ?_
        rintro e w1 ⟨rfl, k1⟩
        have K1 := Lib.hid (below_alloc k1)
        clear k1
        have NP : Hid (¬ P) := Lib.hid (by rw [← HP.out]; intro h; exact hx h.2.1)
        go_wp2_with fail
        go_ret
        exact YesNoB.no NP.out K1.out
      · skip
        unfold parV at CK ⊢
        go_enter Tryd.func37, Tryd.ntmps37
        go_wp2_with fail
        with_reducible refine (CK.out _).mono ?_
        rintro e w1 ⟨rfl, k1⟩
        have K1 := Lib.hid (below_alloc k1)
        clear k1
        have NP : Hid (¬ P) := Lib.hid (by rw [← HP.out]; intro h; exact hx h.2.1)
        go_wp2_with fail
        go_ret
        exact YesNoB.no NP.out K1.out
  · rw [if_neg hp] at CK
    unfold parV at CK ⊢
    go_enter Tryd.func37, Tryd.ntmps37
    go_wp2_with fail
    with_reducible refine (CK.out _).mono ?_
    rintro e w1 ⟨rfl, k1⟩
    have K1 := Lib.hid (below_alloc k1)
    clear k1
    have NP : Hid (¬ P) := Lib.hid (by rw [← HP.out]; intro h; exact hp h.1)
    go_wp2_with fail
    go_ret
    exact YesNoB.no NP.out K1.out

end Go.Proofs.YtflnpcgnenhogaaDoor.ls
namespace Go.Proofs.YtflnpcgnenhogaaDoor.ls
open Go.RowKit Go.Proofs.YtflnpcgnenhogaaDoor.own Go.Proofs.YtflnpcgnenhogaaDoor.bit

/-- the document's writer in memory: its bits -/
def QW (x : Nat → Nat) (c : Nat) (W : World) (qb : Nat) (B : Bits) : Prop := VR x c 4 28 1 W qb B.length (bls B)
theorem QW.row {w W w' : World} {qb : Nat} {vw : Value} (h0 : w.heap[qb]? = some (.cells #[vw] 28 (0, 0))) (hne : ∀ g, vw.ownBlock = some g → g ≠ qb) (k : Below w.heap.size w W) (hg : W.grownBy w' vw.ownBlock) : w'.heap[qb]? = some (.cells #[vw] 28 (0, 0)) :=
  (hg.block _ (Nat.lt_of_lt_of_le (lt_of_block h0) k.size) (fun e => hne _ e.symm rfl)).trans ((k.block _ (lt_of_block h0)).trans h0)
set_option maxRecDepth 100000 in
set_option maxHeartbeats 6400000 in
theorem denc_yes (x0 : Nat → Nat) (c : Nat) (p : Pr) (x : Nat) (w : World) (qb : Nat) (B : Bits) (a : Option Addr) (succ : List Nat) (cap : Nat) (b : Option Addr) (ref : List Nat) (capb r : Nat) (hc : succ.length ≤ cap) (hcb : ref.length ≤ capb) (hm : MayN x succ ref r p) (hA : LV w a succ) (hB : LV w b ref)
    (hl : B.length + (lay x succ ref r p).length ≤ 1000000000) (hq : QW x0 c w qb B) :
    Calls Tryd.prog 12 #[.pointer (some ⟨qb, 0, none⟩), .int .i64 (x : Int), .slice a succ.length cap, .slice b ref.length capb, .int .i64 (r : Int), parV (p.win : Int) (p.itv : Int) (p.zet : Int)] w fun e w' =>
      e = .returned (.int .i64 0) ∧ ∃ x', Fr x0 x' (fun e => e = c) w w' ∧ QW x' c w' qb (B ++ lay x succ ref r p) := by
  obtain ⟨i0, hi, hz0, hz1, hz2⟩ := info_parts Tryd.infoBool
  have MA := Lib.hid (fun W (k : Below w.heap.size w W) => dmay_any (p.win : Int) (p.itv : Int) (p.zet : Int) (x : Int) W a succ cap (hA.below k) b ref capb (hB.below k) (r : Int))
  have LA := Lib.hid (fun W (k : Below w.heap.size w W) => dlaid_any p x W a succ cap b ref capb r hc hcb hm (hA.below k) (hB.below k))
  have HM := Lib.hid (mayN_mayI.2 hm)
  obtain ⟨O, hO⟩ : ∃ O, lay x succ ref r p = O := ⟨_, rfl⟩
  rw [hO] at LA hl ⊢
  obtain ⟨vw, g0, gx, go, gg⟩ := hq
  obtain ⟨s1, d1, hvw⟩ := own_shape go
  have hqb := lt_of_block g0
  have G0 := Lib.hid g0
  have GG := Lib.hid (And.intro gx gg)
  have GO := Lib.hid go
  have c0 : w.cell? ⟨qb, 0, none⟩ = some vw := by rw [cell_of_row w qb _ _ _ _ g0]; rfl
  have C0 := Lib.hid c0
  have C3 : Hid (B.length + O.length ≤ maxLen) := Lib.hid (by simp only [maxLen]; omega)
  have C4 : Hid ((B.length + O.length) * 1 ≤ 140737488355328) := Lib.hid (by omega)
  clear hm hA hB hO g0 gx go gg hl c0
  subst hvw
  unfold parV at MA LA ⊢
  go_enter Tryd.func12, Tryd.ntmps12
  go_wp2_with fail
  have kb : Below w.heap.size w (w.alloc (.cells #[.int .i64 (p.win : Int), .int .i64 (p.itv : Int), .int .i64 (p.zet : Int)] 31)) := (by repeat (first | exact Below.refl _ _ | refine below_drewN ?_ _ | refine Below.setCell ?_ (by simp; try omega) _ | refine Below.alloc ?_ (by simp; try omega) _))
  have r1 := heap_alloc_new w (.cells #[.int .i64 (p.win : Int), .int .i64 (p.itv : Int), .int .i64 (p.zet : Int)] 31)
  with_reducible refine (MA.out _ kb).mono ?_
  rintro e w1 ⟨b1, rfl, hb1, k1⟩
  obtain rfl := hb1.2 HM.out
  have r2 := (k1.block _ (lt_of_block r1)).trans r1
  have k2 := kb.trans (k1.mono kb.size)
  generalize hpb : w.heap.size = pb at r2 ⊢
  have c1 : w1.cell? ⟨qb, 0, none⟩ = some (.slice s1 B.length d1) := (k2.cell hqb).trans C0.out
  have c2 : w1.cell? ⟨pb, 0, none⟩ = some (.int .i64 (p.win : Int)) := by rw [cell_of_row _ _ _ _ _ _ r2]; rfl
  have c3 : w1.cell? ⟨pb, 1, none⟩ = some (.int .i64 (p.itv : Int)) := by rw [cell_of_row _ _ _ _ _ _ r2]; rfl
  have c4 : w1.cell? ⟨pb, 2, none⟩ = some (.int .i64 (p.zet : Int)) := by rw [cell_of_row _ _ _ _ _ _ r2]; rfl
  have K2 := Lib.hid k2
  clear hb1 k1 k2 kb r1 r2
  go_upto_region 3 with fail
  have c1 : w1.drew.cell? ⟨qb, 0, none⟩ = some (.slice s1 B.length d1) := c1
  have c2 : w1.drew.cell? ⟨pb, 0, none⟩ = some (.int .i64 (p.win : Int)) := c2
  have c3 : w1.drew.cell? ⟨pb, 1, none⟩ = some (.int .i64 (p.itv : Int)) := c3
  have c4 : w1.drew.cell? ⟨pb, 2, none⟩ = some (.int .i64 (p.zet : Int)) := c4
  have K2 := Lib.hid (Below.drew K2.out)
  go_region_law (first
    | (go_simp; go_at_call 38; (with_reducible refine (LA.out _ K2.out).mono ?_); rintro e w2 ⟨v2, rfl, own2, k2⟩; have k3 := K2.out.trans (k2.mono K2.out.size); have c5 : w2.cell? ⟨qb, 0, none⟩ = some (.slice s1 B.length d1) := (k3.cell hqb).trans C0.out; have own1 := own_below GO.out k3; dsimp only)
    | (refine wp_append_row _ (by rfl) (.tmp 24) (.tmp 30) 26 rfl 0 _ 4 i0 (.bool false) 1 Tryd.underlying26 hi hz0 hz1 hz2 rfl _ B.length _ rfl own1 _ O.length _ rfl own2 (bls_one _) C3.out C4.out (Nat.zero_le _) ?_; intro v3 w3 own3 hg3 hw3; have r3 := QW.row G0.out (fun g h => (GG.out.2 g h).2) k3 hg3; have c6 : w3.cell? ⟨qb, 0, none⟩ = some (.slice s1 B.length d1) := (by rw [cell_of_row w3 qb _ _ _ _ r3]; rfl); have f6 : w3.frozen? ⟨qb, 0, none⟩ = false := frozen_of_row w3 qb 0 _ _ r3; clear r3; have U3 := Lib.hid (VR.grown (T := 28) G0.out GG.out.1 GG.out.2 k3 own3 hg3 hw3).2; obtain ⟨a3, cap3, rfl⟩ := own_shape own3; clear own3 hg3 hw3))
  all_goals
    go_wp2_with fail
    go_ret
    obtain ⟨x3, u1, u2⟩ := U3.out
    refine ⟨rfl, x3, u1, ?_⟩
    unfold QW
    rw [List.length_append, ← bls_append]
    exact u2
set_option maxRecDepth 100000 in
theorem denc_no (qb : Nat) (win itv zet x : Int) (w : World) (a : Option Addr) (succ : List Nat) (cap : Nat) (b : Option Addr) (ref : List Nat) (capb : Nat) (r : Int) (hm : ¬ MayI win itv zet x succ ref r) (hA : LV w a succ) (hB : LV w b ref) :
    Calls Tryd.prog 12 #[.pointer (some ⟨qb, 0, none⟩), .int .i64 x, .slice a succ.length cap, .slice b ref.length capb, .int .i64 r, parV win itv zet] w fun e w' => e = .returned (.int .i64 1) ∧ Below w.heap.size w w' := by
  have MA := Lib.hid (fun W (k : Below w.heap.size w W) => dmay_any win itv zet x W a succ cap (hA.below k) b ref capb (hB.below k) r)
  have HM := Lib.hid hm
  clear hm hA hB
  unfold parV at MA ⊢
  go_enter Tryd.func12, Tryd.ntmps12
  go_wp2_with fail
  have kb : Below w.heap.size w (w.alloc (.cells #[.int .i64 win, .int .i64 itv, .int .i64 zet] 31)) := (by repeat (first | exact Below.refl _ _ | refine below_drewN ?_ _ | refine Below.setCell ?_ (by simp; try omega) _ | refine Below.alloc ?_ (by simp; try omega) _))
  with_reducible refine (MA.out _ kb).mono ?_
  rintro e w1 ⟨b1, rfl, hb1, k1⟩
  obtain rfl : b1 = false := by
    cases b1 with
    | false => rfl
    | true => exact absurd (hb1.1 rfl) HM.out
  have K2 := Lib.hid (kb.trans (k1.mono kb.size))
  clear hb1 k1 kb
  go_wp2_with fail
  go_ret
  exact ⟨rfl, K2.out⟩
end Go.Proofs.YtflnpcgnenhogaaDoor.ls
namespace Go.Proofs.YtflnpcgnenhogaaDoor.ls
open Go.RowKit Go.Proofs.YtflnpcgnenhogaaDoor.own Go.Proofs.YtflnpcgnenhogaaDoor.bit

/-- a copy with a mark behind it, in a block of its own -/
def Lent (l : List Nat) (_g cap : Nat) (cur : Array Value) : Prop := l.length + 1 ≤ cap ∧ cap ≤ cur.size ∧ cur.toList.take (l.length + 1) = u32V l ++ [.int .u32 77] ∧ (∀ u ∈ l, u < 4294967296) ∧ l.length ≤ 4611686018427387903
theorem Lent.lv {l : List Nat} {g cap : Nat} {cur : Array Value} (h : Lent l g cap cur) {W : World} (hW : W.heap[g]? = some (.cells cur 60 (0, 0))) : LV W (some ⟨g, 0, none⟩) l :=
  ⟨h.2.2.2.2, fun i hi => ⟨g, 0, rfl, lt_of_block hW, by
    rw [Nat.zero_add, cell_of_row _ _ _ _ _ _ hW, ← Array.getElem?_toList]
    have e : (cur.toList.take (l.length + 1))[i]? = (u32V l ++ [Value.int .u32 77])[i]? := by rw [h.2.2.1]
    rw [List.getElem?_take_of_lt (by omega), List.getElem?_append_left (by simpa [u32V] using hi)] at e
    rw [e]
    simp [u32V, hi], h.2.2.2.1 _ (List.getElem_mem hi)⟩⟩
theorem Lent.mark {l : List Nat} {g cap : Nat} {cur : Array Value} (h : Lent l g cap cur) {W : World} (hW : W.heap[g]? = some (.cells cur 60 (0, 0))) : W.cell? ⟨g, l.length, none⟩ = some (.int .u32 77) := by
  rw [cell_of_row _ _ _ _ _ _ hW, ← Array.getElem?_toList]
  have e : (cur.toList.take (l.length + 1))[l.length]? = (u32V l ++ [Value.int .u32 77])[l.length]? := by rw [h.2.2.1]
  rw [List.getElem?_take_of_lt (by omega)] at e
  rw [e, List.getElem?_append_right (by simp [u32V])]
  simp [u32V]
def LentP (l : List Nat) (w : World) (e : Ending) (w' : World) : Prop := ∃ g cap cur, e = .returned (.slice (some ⟨g, 0, none⟩) l.length cap) ∧ w.heap.size ≤ g ∧ w'.heap[g]? = some (.cells cur 60 (0, 0)) ∧ Lent l g cap cur ∧ Below w.heap.size w w'
set_option maxRecDepth 100000 in
set_option maxHeartbeats 3200000 in
theorem lent_any (w : World) (a : Option Addr) (l : List Nat) (cap : Nat) (hl : l.length < 35184372088832) (hA : LV w a l) :
    Calls Tryd.prog 8 #[.slice a l.length cap] w (LentP l w) := by
  obtain ⟨j0, hj, hj0, hj1, hj2⟩ := info_parts Tryd.infoU32
  have HA := Lib.hid hA
  obtain ⟨n, hn⟩ : ∃ n, l.length = n := ⟨_, rfl⟩
  have HN := Lib.hid hn
  rw [hn] at hl ⊢
  clear hA hn
  have O1 : Hid ((w.alloc (.cells #[] 60)).ownsRow w.heap.size 60 1 (.slice (some ⟨w.heap.size, 0, none⟩) 0 0) ([] : List Nat).length (u32V [])) := Lib.hid ⟨rfl, .inr ⟨w.heap.size, 0, _, rfl, Nat.le_refl _, heap_alloc_new w _, Nat.le_refl _, by decide, rfl, rfl⟩⟩
  have K1 : Hid (Below w.heap.size w (w.alloc (.cells #[] 60))) := Lib.hid ((by repeat (first | exact Below.refl _ _ | refine below_drewN ?_ _ | refine Below.setCell ?_ (by simp; try omega) _ | refine Below.alloc ?_ (by simp; try omega) _)))
  have A1 := Lib.hid (HA.out.below K1.out)
  have HLT : Hid (∀ u ∈ l, u < 4294967296) := Lib.hid (fun u hu => by
    obtain ⟨i, hi, rfl⟩ := List.mem_iff_getElem.1 hu
    obtain ⟨_, _, _, _, h⟩ := HA.out.cellAt i hi
    exact h)
  have C3 : Hid (0 + n ≤ maxLen) := Lib.hid (by simp only [maxLen]; omega)
  have C4 : Hid ((0 + n) * 4 ≤ 140737488355328) := Lib.hid (by omega)
  have C5 : Hid (n + 1 ≤ maxLen) := Lib.hid (by simp only [maxLen]; omega)
  have C6 : Hid ((n + 1) * 4 ≤ 140737488355328) := Lib.hid (by omega)
  go_enter Tryd.func8, Tryd.ntmps8
  go_wp2_with (at_builtin; refine wpList_append_lv _ rfl _ _ 29 rfl w.heap.size 60 j0 _ 4 Tryd.underlying29 hj hj0 hj1 hj2 rfl _ 0 _ rfl O1.out a n cap l rfl HN.out A1.out C3.out C4.out K1.out.size ?_)
  intro v2 w2 own2 hg2 hw2
  rw [show u32V [] ++ u32V l = u32V l from rfl] at own2
  have K2 := Lib.hid (K1.out.grown hg2 K1.out.size (fun k hk => (O1.out.lt k hk).1))
  obtain ⟨s2, d2, rfl⟩ := own_shape own2
  have O2 := Lib.hid (own2.alloc (.cells #[.int .u32 77] 60))
  have K3 : Hid (Below w.heap.size w (w2.alloc (.cells #[.int .u32 77] 60))) := Lib.hid (K2.out.alloc K2.out.size _)
  clear own2 hg2 hw2
  go_wp2_with (at_builtin; refine wpList_append_at _ rfl _ _ 29 rfl w.heap.size 60 j0 _ 1 4 Tryd.underlying29 hj hj0 hj1 hj2 rfl (by decide) _ n _ rfl O2.out ⟨w2.heap.size, 0, none⟩ 1 1 [.int .u32 77] rfl rfl (cell_one_new _ _ _) (u32_one [77]) C5.out C6.out K3.out.size (by decide) ?_)
  intro v3 w3 own3 hg3 hw3
  have K4 := Lib.hid (K3.out.grown hg3 K3.out.size (fun k hk => (O2.out.lt k hk).1))
  have HL9 := Lib.hid HA.out.1
  rcases own3.2 with ⟨_, h0⟩ | ⟨g, cap3, cur, rfl, hb, hg, hn1, hcm, hcs, htake⟩
  · omega
  · have RES : Hid (w.heap.size ≤ g ∧ w3.heap[g]? = some (.cells cur 60 (0, 0)) ∧ Lent l g cap3 cur) := Lib.hid ⟨hb, hg, by rw [HN.out]; exact hn1, by omega, by rw [HN.out, ← htake, Nat.mul_one], HLT.out, HL9.out⟩
    clear own3 hg3 hw3 hb hg hcm hcs htake
    go_wp2_with fail
    go_ret
    exact ⟨g, cap3, cur, by rw [HN.out]; rfl, RES.out.1, RES.out.2.1, RES.out.2.2, K4.out⟩
set_option maxRecDepth 100000 in
theorem kept_any (w : World) (g : Nat) (l : List Nat) (cap : Nat) (cur : Array Value) (b : Option Addr) (capb : Nat) (hL : Lent l g cap cur) (hW : w.heap[g]? = some (.cells cur 60 (0, 0))) (hcb : l.length ≤ capb) (hB : LV w b l) :
    Calls Tryd.prog 15 #[.slice (some ⟨g, 0, none⟩) l.length cap, .slice b l.length capb] w fun e w' => e = .returned (.bool true) ∧ Below w.heap.size w w' := by
  have SM := Lib.hid (same_any w (some ⟨g, 0, none⟩) l cap b l capb (by have := hL.1; omega) hcb (hL.lv hW) hB)
  have c0 := hL.mark hW
  have hl9 := hL.2.2.2.2
  have hcap := hL.1
  rw [decide_eq_true rfl] at SM
  obtain ⟨n, hn⟩ : ∃ n, l.length = n := ⟨_, rfl⟩
  rw [hn] at SM c0 hl9 hcap hcb ⊢
  clear hL hn hB
  go_enter Tryd.func15, Tryd.ntmps15
  go_wp2_with fail
  with_reducible refine SM.out.mono ?_
  rintro e w1 ⟨rfl, k1⟩
  have c1 : w1.cell? ⟨g, n, none⟩ = some (.int .u32 77) := (k1.cell (by exact lt_of_block hW)).trans c0
  have K1 := Lib.hid k1
  clear k1 c0
  go_wp2_with fail
  go_ret
  exact ⟨rfl, K1.out⟩
end Go.Proofs.YtflnpcgnenhogaaDoor.ls
