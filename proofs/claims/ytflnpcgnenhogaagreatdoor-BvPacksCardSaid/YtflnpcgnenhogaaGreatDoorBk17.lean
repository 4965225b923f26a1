/- Own lemmas, laid together. -/
import Derived.Test.YtflnpcgnenhogaaGreatDoorBk10
import Derived.RangeFuncIn
import Derived.Scope
import Derived.Lib.Repeat
namespace Go.Proofs.YtflnpcgnenhogaaGreatDoor.ev
open Go Go.RowKit

/-! ### a step is seen by a larger heap -/
section
variable {B : Nat} {σ σ' : Sg} {hp hp1 hp1' : Nat → Option AO} {nx nx' : Nat} {w w' : World}

theorem HR.sub (h : HR B σ hp nx w) (hs : ∀ k o, hp1 k = some o → hp k = some o) : HR B σ hp1 nx w := by
 refine ⟨fun k o h1 h2 => h.live k o (hs k o h1) h2, fun k k' o o' b κ κ' h1 h2 h3 h4 h5 h6 => h.inj k k' o o' b κ κ' (hs _ _ h1) h2 (hs _ _ h3) h4 h5 h6, fun k hk => ⟨(h.fresh k hk).1, ?_⟩, h.base, h.glob⟩
 cases he : hp1 k with
 | none => rfl
 | some o => have := hs k o he; rw [(h.fresh k hk).2] at this; cases this

theorem Step.frame (h : HR B σ hp nx w) (hs : ∀ k o, hp1 k = some o → hp k = some o) (st : Step B σ hp1 nx w σ' hp1' nx' w') :
  Step B σ hp nx w σ' (fun k => match hp1' k with | some o => some o | none => hp k) nx' w' := by
 have h1 := h.sub hs
 have hle := st.le h1
 have hlt : ∀ k o, hp k = some o → k < nx := fun k o hk => by
  rcases Nat.lt_or_ge k nx with h' | h'
  ·exact h'
  ·rw [(h.fresh k h').2] at hk; cases hk
 have two : ∀ k o, (match hp1' k with | some o => some o | none => hp k) = some o → hp1' k = some o ∨ (hp1' k = none ∧ hp1 k = none ∧ hp k = some o) := fun k o hk => by
  cases he : hp1' k with
  | some o' => rw [he] at hk; exact .inl hk
  | none =>
   rw [he] at hk
   refine .inr ⟨rfl, ?_, hk⟩
   cases hq : hp1 k with
   | none => rfl
   | some o' => obtain ⟨_, h2⟩ := st.keepS k o' hq; rw [he] at h2; cases h2
 have stay : ∀ k o b κ, hp1 k = none → hp k = some o → o.isDead = false → σ k = some (b, κ) → w'.heap[b]? = w.heap[b]? := fun k o b κ g1 g2 g3 g4 => by
  refine st.old b (h.lt_of g2 g3 g4) fun k0 o0 κ0 e1 e2 e3 e4 => ?_
  have := h.inj k0 k o0 o b κ0 κ (hs _ _ e1) e2 g2 g3 e4 g4
  subst this
  rw [g1] at e1; cases e1
 refine ⟨st.os, st.tape, st.output, st.size, fun b hb hn => st.old b hb fun k o κ e1 e2 e3 e4 => hn k o κ (hs _ _ e1) e2 e3 e4, fun k o b κ e1 e2 e3 => ?_, st.keep, fun k hk hn => ?_, fun k o hk => ?_, st.nxle, ⟨fun k o e1 e2 => ?_, fun k k' o o' b κ κ' e1 e2 e3 e4 e5 e6 => ?_, fun k hk => ?_, st.hr.base, st.hr.glob⟩⟩
 ·rcases two k o e1 with g | ⟨_, g2, g3⟩
  ·rcases st.img k o b κ g e2 e3 with g4 | ⟨k0, o0, κ0, a1, a2, a3, a4⟩
   ·exact .inl g4
   ·exact .inr ⟨k0, o0, κ0, hs _ _ a1, a2, a3, a4⟩
  ·rw [st.keep k (hlt k o g3)] at e3
   exact .inr ⟨k, o, κ, g3, e2, e3, id⟩
 ·have : hp1 k = none := by
   cases he : hp1 k with
   | none => rfl
   | some o => rw [hs _ _ he] at hn; cases hn
  simp only [st.keepN k hk this]
  exact hn
 ·cases he : hp1' k with
  | some o' => exact ⟨o', rfl⟩
  | none => exact ⟨o, hk⟩
 ·rcases two k o e1 with g | ⟨_, g2, g3⟩
  ·exact st.hr.live k o g e2
  ·obtain ⟨b, κ, ob, a1, a2, a3, a4⟩ := h.live k o g3 e2
   refine ⟨b, κ, ob, by rw [st.keep k (hlt k o g3)]; exact a1, by rw [stay k o b κ g2 g3 e2 a1]; exact a2, a3.mono hle, a4⟩
 ·have mixed : ∀ k k' o o' κ κ', hp1' k = some o → o.isDead = false → σ' k = some (b, κ) → hp1' k' = none → hp1 k' = none → hp k' = some o' → o'.isDead = false → σ' k' = some (b, κ') → False := fun k k' o o' κ κ' g1 g2 g3 g4 g5 g6 g7 g8 => by
   rw [st.keep k' (hlt k' o' g6)] at g8
   have hb := h.lt_of g6 g7 g8
   rcases st.img k o b κ g1 g2 g3 with x | ⟨k0, o0, κ0, a1, a2, a3, _⟩
   ·omega
   ·have := h.inj k0 k' o0 o' b κ0 κ' (hs _ _ a1) a2 g6 g7 a3 g8
    subst this
    rw [g5] at a1; cases a1
  rcases two k o e1 with g | ⟨g1, g2, g3⟩
  ·rcases two k' o' e3 with j | ⟨j1, j2, j3⟩
   ·exact st.hr.inj k k' o o' b κ κ' g e2 j e4 e5 e6
   ·exact (mixed k k' o o' κ κ' g e2 e5 j1 j2 j3 e4 e6).elim
  ·rcases two k' o' e3 with j | ⟨j1, j2, j3⟩
   ·exact (mixed k' k o' o κ' κ j e4 e6 g1 g2 g3 e2 e5).elim
   ·rw [st.keep k (hlt k o g3)] at e5
    rw [st.keep k' (hlt k' o' j3)] at e6
    exact h.inj k k' o o' b κ κ' g3 e2 j3 e4 e5 e6
 ·have := st.hr.fresh k hk
  refine ⟨this.1, ?_⟩
  simp only [this.2]
  exact (h.fresh k (Nat.le_trans st.nxle hk)).2

/-- what is left out at the end -/
theorem Step.less {hp' hp2 : Nat → Option AO} (st : Step B σ hp nx w σ' hp' nx' w') (hs : ∀ k o, hp2 k = some o → hp' k = some o) (hk : ∀ k o, hp k = some o → ∃ o', hp2 k = some o') : Step B σ hp nx w σ' hp2 nx' w' := by
 refine ⟨st.os, st.tape, st.output, st.size, st.old, fun k o b κ e1 e2 e3 => st.img k o b κ (hs _ _ e1) e2 e3, st.keep, fun k hlt hn => ?_, hk, st.nxle, st.hr.sub hs⟩
 cases he : hp2 k with
 | none => rfl
 | some o => have := hs _ _ he; rw [st.keepN k hlt hn] at this; cases this

/-- a block at a number that was set aside -/
theorem Step.allocAt {σ0 : Sg} {hp0 : Nat → Option AO} {nx0 : Nat} {w0 : World} (st : Step B σ0 hp0 nx0 w0 σ hp nx w) {id : Nat} (h1 : nx0 ≤ id) (h2 : id < nx) (h3 : hp id = none) (h4 : σ id = none) {o : AO} {κ : Nat} {ob : Obj}
  (ho : ORel (σ.set id w.heap.size κ) κ o ob) : Step B σ0 hp0 nx0 w0 (σ.set id w.heap.size κ) (fun k => if k = id then some o else hp k) nx (w.alloc ob) := by
 have h := st.hr
 have hle : σ.le (σ.set id w.heap.size κ) := Sg.set_le _ _ h4
 have hheap : (w.alloc ob).heap = w.heap.push ob := rfl
 have hnew : (w.alloc ob).heap[w.heap.size]? = some ob := by rw [hheap]; simp
 have hold : ∀ c, c < w.heap.size → (w.alloc ob).heap[c]? = w.heap[c]? := fun c hc => by rw [hheap, Array.getElem?_push]; rw [if_neg (by omega)]
 have hsz : (w.alloc ob).heap.size = w.heap.size + 1 := by rw [hheap]; simp
 refine ⟨st.os, st.tape, st.output, by have := st.size; omega, fun c hc hn => by rw [hold c (Nat.lt_of_lt_of_le hc st.size)]; exact st.old c hc hn, fun j oj c κj g1 g2 g3 => ?_, fun j hj => by rw [Sg.set_other _ _ _ (by omega)]; exact st.keep j hj, fun j hj hn => ?_, fun j oj hj => ?_, st.nxle,
  ⟨fun j oj g1 g2 => ?_, fun j j' oj oj' c κj κj' g1 g2 g3 g4 g5 g6 => ?_, fun j hj => ?_, by have := h.base; omega, fun i hi => ?_⟩⟩
 ·by_cases hj : j = id
  ·subst hj
   rw [Sg.set_same] at g3; injection g3 with g3; injection g3 with g3 g4; subst g3
   exact .inl st.size
  ·simp only [hj, if_false] at g1
   rw [Sg.set_other _ _ _ hj] at g3
   exact st.img j oj c κj g1 g2 g3
 ·rw [if_neg (by omega)]; exact st.keepN j hj hn
 ·by_cases hj' : j = id
  ·exact ⟨o, if_pos hj'⟩
  ·simp only [hj', if_false]; exact st.keepS j oj hj
 ·by_cases hj : j = id
  ·subst hj
   simp only [if_true] at g1
   injection g1 with g1; subst g1
   exact ⟨w.heap.size, κ, ob, Sg.set_same _ _ _ _, hnew, ho, fun _ => h.base⟩
  ·simp only [hj, if_false] at g1
   obtain ⟨c, κj, oc, a1, a2, a3, a4⟩ := h.live j oj g1 g2
   exact ⟨c, κj, oc, by rw [Sg.set_other _ _ _ hj]; exact a1, by rw [hold c (h.lt_of g1 g2 a1)]; exact a2, a3.mono hle, a4⟩
 ·have key : ∀ i oi, (if i = id then some o else hp i) = some oi → oi.isDead = false → i ≠ id → ∃ b' κ', σ i = some (b', κ') ∧ b' < w.heap.size ∧ hp i = some oi := fun i oi x1 x2 x3 => by
   rw [if_neg x3] at x1
   obtain ⟨b', κ', _, a1, _⟩ := h.live i oi x1 x2
   exact ⟨b', κ', a1, h.lt_of x1 x2 a1, x1⟩
  by_cases hj : j = id
  ·by_cases hj' : j' = id
   ·omega
   ·obtain ⟨b', κ', a1, a2, _⟩ := key j' oj' g3 g4 hj'
    rw [Sg.set_other _ _ _ hj', a1] at g6
    subst hj
    rw [Sg.set_same] at g5
    injection g5 with g5; injection g5 with g5 _
    injection g6 with g6; injection g6 with g6 _
    omega
  ·by_cases hj' : j' = id
   ·obtain ⟨b', κ', a1, a2, _⟩ := key j oj g1 g2 hj
    rw [Sg.set_other _ _ _ hj, a1] at g5
    subst hj'
    rw [Sg.set_same] at g6
    injection g5 with g5; injection g5 with g5 _
    injection g6 with g6; injection g6 with g6 _
    omega
   ·obtain ⟨_, _, _, _, x1⟩ := key j oj g1 g2 hj
    obtain ⟨_, _, _, _, y1⟩ := key j' oj' g3 g4 hj'
    rw [Sg.set_other _ _ _ hj] at g5
    rw [Sg.set_other _ _ _ hj'] at g6
    exact h.inj j j' oj oj' c κj κj' x1 g2 y1 g4 g5 g6
 ·have := h.fresh j hj
  exact ⟨by rw [Sg.set_other _ _ _ (by omega)]; exact this.1, by rw [if_neg (by omega)]; exact this.2⟩
 ·rw [Sg.set_other _ _ _ ?_]
  ·exact h.glob i hi
  ·rintro rfl
   have := h.glob i hi
   rw [h4] at this
   cases this
end

/-! ### values that are told equal are equal -/
theorem allEq_eq {eq : Value → Value → Bool} (he : ∀ x y, eq x y = true → x = y) : ∀ xs ys : List Value, allEq eq xs ys = true → xs = ys
 | [], [], _ => rfl
 | x :: xs, y :: ys, h => by
  simp only [allEq, Bool.and_eq_true] at h
  rw [he x y h.1, allEq_eq he xs ys h.2]
 | [], _ :: _, h => by cases h
 | _ :: _, [], h => by cases h
theorem veq_eq : ∀ (n : Nat) (x y : Value), veq n x y = true → x = y
 | 0, _, _, h => by cases h
 | n + 1, x, y, h => by
  have ih := allEq_eq (veq_eq n)
  unfold veq at h
  split at h
  ·simp at h; rw [h]
  ·simp at h; rw [h.1, h.2]
  ·rw [bytesEq_iff] at h; rw [ByteArray.ext (Array.ext' (of_decide_eq_true h))]
  ·simp at h; rw [h]
  ·simp only [Bool.and_eq_true, decide_eq_true_eq] at h; rw [h.1.1, beq_of h.1.2, beq_of h.2]
  ·simp at h; rw [h]
  ·rfl
  ·rfl
  ·simp only [Bool.and_eq_true, decide_eq_true_eq] at h
   rw [h.1.1, Array.ext' (ih _ _ h.1.2), Array.ext' (ih _ _ h.2)]
  ·simp only [Bool.and_eq_true] at h; rw [beq_of h.1, veq_eq n _ _ h.2]
  ·rw [Array.ext' (ih _ _ h)]
  ·rw [Array.ext' (ih _ _ h)]
  ·cases h
end Go.Proofs.YtflnpcgnenhogaaGreatDoor.ev

namespace Go.Proofs.YtflnpcgnenhogaaGreatDoor.ev
open Go Go.RowKit

/-! ### what stands in front of what -/
structure Fore (ops : Array Oper) (ms : Nat → Nat) : Prop where
 edge : ∀ (i : Nat) (o : Oper), ops[i]? = some o → ∀ e ∈ o.after, Region.binds .any e = true → e.on < i
 mask : ∀ (i : Nat) (o : Oper) (b : Nat), ops[i]? = some o → (ms i).testBit b = true → ∃ e ∈ o.after, Region.binds .any e = true ∧ (e.on = b ∨ (e.on < i ∧ (ms e.on).testBit b = true))
 pair : ∀ (i j : Nat) (oi oj : Oper), i < j → ops[i]? = some oi → ops[j]? = some oj → oi.apart ops oj = true ∨ (ms j).testBit i = true

theorem edgesB_spec : ∀ (os : List Oper) (i : Nat), edgesB i os = true → ∀ (j : Nat) (o : Oper), os[j]? = some o → ∀ e ∈ o.after, Region.binds .any e = true → e.on < i + j
 | [], _, _, _, _, h => by simp at h
 | o :: os, i, h, j, p, hj => by
  simp only [edgesB, Bool.and_eq_true, List.all_eq_true] at h
  cases j with
  | zero =>
   simp only [List.getElem?_cons_zero, Option.some.injEq] at hj; subst hj
   intro e he hb
   have := h.1 e (by simpa using he)
   simp only [hb, Bool.not_true, Bool.false_or] at this
   simpa using blt_of this
  | succ j =>
   simp only [List.getElem?_cons_succ] at hj
   intro e he hb
   have := edgesB_spec os (i + 1) h.2 j p hj e he hb
   omega

theorem foldBits (acc : List Nat) (b : Nat) : ∀ (es : List Edge) (s : Nat), (es.foldl (fun s e => bif Region.binds .any e then s ||| 2 ^ e.on ||| acc.getD e.on 0 else s) s).testBit b = true →
  s.testBit b = true ∨ ∃ e ∈ es, Region.binds .any e = true ∧ (e.on = b ∨ (acc.getD e.on 0).testBit b = true)
 | [], s, h => .inl h
 | e :: es, s, h => by
  rw [List.foldl_cons] at h
  rcases foldBits acc b es _ h with h1 | ⟨e', h1, h2, h3⟩
  ·cases hb : Region.binds .any e with
   | false => rw [hb] at h1; exact .inl h1
   | true =>
    rw [hb] at h1
    simp only [cond_true, Nat.testBit_or, Bool.or_eq_true, Nat.testBit_two_pow, decide_eq_true_eq] at h1
    rcases h1 with (h1 | h1) | h1
    ·exact .inl h1
    ·exact .inr ⟨e, by simp, hb, .inl h1⟩
    ·exact .inr ⟨e, by simp, hb, .inr h1⟩
  ·exact .inr ⟨e', by simp [h1], h2, h3⟩

theorem masksA_pre : ∀ (os : List Oper) (acc : List Nat) (k : Nat), k < acc.length → (masksA acc os)[k]? = acc[k]?
 | [], _, _, _ => rfl
 | o :: os, acc, k, hk => by
  rw [masksA, masksA_pre os _ k (by simp; omega), List.getElem?_append_left hk]
theorem masksA_spec : ∀ (os : List Oper) (acc : List Nat) (j : Nat) (o : Oper) (b : Nat), os[j]? = some o → ((masksA acc os).getD (acc.length + j) 0).testBit b = true →
  ∃ e ∈ o.after, Region.binds .any e = true ∧ (e.on = b ∨ (e.on < acc.length + j ∧ ((masksA acc os).getD e.on 0).testBit b = true))
 | [], _, _, _, _, h, _ => by simp at h
 | o :: os, acc, j, p, b, hj, hb => by
  cases j with
  | zero =>
   simp only [List.getElem?_cons_zero, Option.some.injEq] at hj; subst hj
   rw [masksA, List.getD_eq_getElem?_getD, masksA_pre os _ _ (by simp)] at hb
   simp only [Nat.add_zero, List.getElem?_concat_length, Option.getD_some] at hb
   rcases foldBits acc b _ _ hb with h1 | ⟨e, h1, h2, h3⟩
   ·simp at h1
   ·refine ⟨e, by simpa using h1, h2, h3.imp id fun h4 => ?_⟩
    have hlt : e.on < acc.length := by
     rcases Nat.lt_or_ge e.on acc.length with h' | h'
     ·exact h'
     ·rw [List.getD_eq_getElem?_getD, List.getElem?_eq_none h'] at h4
      simp at h4
    refine ⟨by omega, ?_⟩
    rw [masksA, List.getD_eq_getElem?_getD, masksA_pre os _ _ (by simp; omega), List.getElem?_append_left hlt, ← List.getD_eq_getElem?_getD]
    exact h4
  | succ j =>
   simp only [List.getElem?_cons_succ] at hj
   rw [masksA] at hb ⊢
   generalize hacc : acc ++ [o.after.toList.foldl (fun s e => bif Region.binds .any e then s ||| 2 ^ e.on ||| acc.getD e.on 0 else s) 0] = acc' at hb ⊢
   have hl : acc'.length = acc.length + 1 := by rw [← hacc]; simp
   have := masksA_spec os acc' j p b hj (by rw [hl, show acc.length + 1 + j = acc.length + (j + 1) by omega]; exact hb)
   rw [hl, show acc.length + 1 + j = acc.length + (j + 1) by omega] at this
   exact this

theorem pairB_spec {ops : Array Oper} {oj : Oper} {m : Nat} : ∀ (os : List Oper) (i : Nat), pairB ops oj m i os = true → ∀ (t : Nat) (oi : Oper), os[t]? = some oi → oi.apart ops oj = true ∨ m.testBit (i + t) = true
 | [], _, _, _, _, h => by simp at h
 | o :: os, i, h, t, oi, ht => by
  simp only [pairB, Bool.and_eq_true, Bool.or_eq_true] at h
  cases t with
  | zero =>
   simp only [List.getElem?_cons_zero, Option.some.injEq] at ht; subst ht
   exact h.1
  | succ t =>
   simp only [List.getElem?_cons_succ] at ht
   have := pairB_spec os (i + 1) h.2 t oi ht
   rwa [show i + 1 + t = i + (t + 1) by omega] at this
theorem pairsB_spec {ops : Array Oper} : ∀ (os done : List Oper) (ms : List Nat), pairsB ops done os ms = true → ∀ (j : Nat) (oj : Oper), os[j]? = some oj → ∀ (i : Nat) (oi : Oper), i < done.length + j → (done ++ os)[i]? = some oi →
  oi.apart ops oj = true ∨ (ms.getD j 0).testBit i = true
 | [], _, _, _, _, _, h => by simp at h
 | o :: os, done, [], h, _, _, _ => by simp [pairsB] at h
 | o :: os, done, m :: ms, h, j, oj, hj => by
  simp only [pairsB, Bool.and_eq_true] at h
  intro i oi hi hio
  cases j with
  | zero =>
   simp only [List.getElem?_cons_zero, Option.some.injEq] at hj; subst hj
   rw [List.getElem?_append_left (by omega)] at hio
   have := pairB_spec done 0 h.1 i oi hio
   simpa using this
  | succ j =>
   simp only [List.getElem?_cons_succ] at hj
   have := pairsB_spec os (done ++ [o]) ms h.2 j oj hj i oi (by simp; omega) (by simpa using hio)
   simpa using this

theorem drawOk_fore {ops : Array Oper} (h : drawOk ops = true) : Fore ops fun i => (masksA [] ops.toList).getD i 0 := by
 simp only [drawOk, Bool.and_eq_true] at h
 refine ⟨fun i o ho e he hb => ?_, fun i o b ho hb => ?_, fun i j oi oj hij hi hj => ?_⟩
 ·have := edgesB_spec ops.toList 0 h.1 i o (by simpa using ho) e he hb
  omega
 ·have := masksA_spec ops.toList [] i o b (by simpa using ho) (by simpa using hb)
  simpa using this
 ·exact pairsB_spec ops.toList [] _ h.2 j oj (by simpa using hj) i oi (by simpa using hij) (by simpa using hi)

/-! ### what an operation does in the run in text order -/
inductive SC (P : Program) (tab : Tab) (rec : Code → F → H → Option R) (ops : Array Oper) (i m : Nat) (o : Oper) (d : D) : D → Prop
 | off {f'} (hw : wantedA ops o d.f.get = false) (hp : d.f.put o.dst undef = some f') : SC P tab rec ops i m o d { d with f := f' }
 | pure {v f'} (hw : wantedA ops o d.f.get = true) (hk : kindOf P o.op = 0) (hh : readsHeap o.op = false) (hx : xq P o d.f.get d.h = some v) (hp : d.f.put o.dst v = some f') : SC P tab rec ops i m o d { d with f := f' }
 | read {v f'} (hw : wantedA ops o d.f.get = true) (hk : kindOf P o.op = 0) (hx : xqAt P m d.made o d.f d.h = some v) (hp : d.f.put o.dst v = some f') (hs : sameAt P m d.made o d.f v (d.old.take (freeW m d.ws)) = true) :
   SC P tab rec ops i m o d { d with f := f', qs := ⟨i, m, o, d.f, v⟩ :: d.qs }
 | make {v r f'} (hw : wantedA ops o d.f.get = true) (hk : kindOf P o.op = 1) (hx : xa P o d.f.get d.nid = some (v, r)) (hp : d.f.put o.dst v = some f') :
   SC P tab rec ops i m o d { d with f := f', made := ⟨i, d.nid, r⟩ :: d.made, nid := d.nid + 1 }
 | write {v g h' f'} (hw : wantedA ops o d.f.get = true) (hl : ∀ j js, d.ws = j :: js → m.testBit j = true) (ha : activate m d.made d.h = some g) (hx : wrA P tab rec o d.f g = some (v, h')) (hp : d.f.put o.dst v = some f') (hq : qsOk P m d.made h' d.qs = true) :
   SC P tab rec ops i m o d { d with f := f', h := h', old := d.h :: d.old, ws := i :: d.ws }

def headB (m : Nat) : List Nat → Bool
 | [] => true
 | j :: _ => m.testBit j
theorem drawStep_SC {P : Program} {tab : Tab} {rec : Code → F → H → Option R} {ops : Array Oper} {i m : Nat} {o : Oper} {d d' : D} (h : drawStep P tab rec ops i m o d = some d') : SC P tab rec ops i m o d d' := by
 unfold drawStep at h
 split at h
 ·rename_i hw
  split at h
  ·rename_i f' hp
   injection h with h; subst h
   exact .off hw hp
  ·cases h
 ·rename_i hw
  split at h
  ·rename_i hk
   cases hh : readsHeap o.op with
   | true =>
    rw [hh] at h
    simp only [cond_true] at h
    split at h
    ·rename_i v hx
     split at h
     ·rename_i f' hp
      cases hs : sameAt P m d.made o d.f v (d.old.take (freeW m d.ws)) with
      | false => rw [hs] at h; cases h
      | true =>
       rw [hs] at h
       simp only [cond_true, Option.some.injEq] at h
       subst h
       exact .read hw hk hx hp hs
     ·cases h
    ·cases h
   | false =>
    rw [hh] at h
    simp only [cond_false] at h
    split at h
    ·rename_i v hx
     split at h
     ·rename_i f' hp
      injection h with h; subst h
      exact .pure hw hk hh hx hp
     ·cases h
    ·cases h
  ·rename_i hk
   split at h
   ·rename_i v r hx
    split at h
    ·rename_i f' hp
     injection h with h; subst h
     exact .make hw hk hx hp
    ·cases h
   ·cases h
  ·change (bif headB m d.ws then _ else none) = some d' at h
   cases hl : headB m d.ws with
   | false => rw [hl] at h; cases h
   | true =>
    rw [hl] at h
    simp only [cond_true] at h
    split at h
    ·rename_i g ha
     split at h
     ·rename_i v h' hx
      split at h
      ·rename_i f' hp
       cases hq : qsOk P m d.made h' d.qs with
       | false => rw [hq] at h; cases h
       | true =>
        rw [hq] at h
        simp only [cond_true, Option.some.injEq] at h
        subst h
        exact .write hw (fun j js hj => by rw [hj] at hl; exact hl) ha hx hp hq
      ·cases h
     ·cases h
    ·cases h

structure Tr (P : Program) (tab : Tab) (rec : Code → F → H → Option R) (ops : Array Oper) (ms : Nat → Nat) (S : Nat → D) (f0 : F) (h0 : H) (top : Nat) : Prop where
 fore : Fore ops ms
 start : S 0 = ⟨f0, ⟨h0.heap, h0.next + top⟩, [], [], [], [], h0.next⟩
 step : ∀ (i : Nat) (o : Oper), ops[i]? = some o → SC P tab rec ops i (ms i) o (S i) (S (i + 1))
 nid : (S ops.size).nid ≤ h0.next + top

theorem drawGo_tr {P : Program} {tab : Tab} {rec : Code → F → H → Option R} {ops : Array Oper} : ∀ (os : List Oper) (ms : List Nat) (i : Nat) (d d' : D), drawGo P tab rec ops i os ms d = some d' →
  ∃ S : Nat → D, S i = d ∧ S (i + os.length) = d' ∧ ∀ (j : Nat) (o : Oper), os[j]? = some o → SC P tab rec ops (i + j) (ms.getD j 0) o (S (i + j)) (S (i + j + 1))
 | [], ms, i, d, d', h => by
  simp only [drawGo, Option.some.injEq] at h
  exact ⟨fun _ => d, rfl, h, fun j o hj => by simp at hj⟩
 | o :: os, [], i, d, d', h => by simp [drawGo] at h
 | o :: os, m :: ms, i, d, d', h => by
  simp only [drawGo] at h
  split at h
  ·rename_i d1 hd
   obtain ⟨S, h1, h2, h3⟩ := drawGo_tr os ms (i + 1) d1 d' h
   refine ⟨fun j => if j ≤ i then d else S j, by simp, ?_, fun j p hj => ?_⟩
   ·show (if i + (os.length + 1) ≤ i then d else S (i + (os.length + 1))) = d'
    rw [if_neg (by omega), ← h2]
    congr 1
    omega
   ·cases j with
    | zero =>
     simp only [List.getElem?_cons_zero, Option.some.injEq] at hj; subst hj
     simp only [Nat.add_zero, Nat.le_refl, if_true]
     rw [if_neg (by omega), h1]
     exact drawStep_SC hd
    | succ j =>
     simp only [List.getElem?_cons_succ] at hj
     have := h3 j p hj
     show SC P tab rec ops (i + (j + 1)) ((m :: ms).getD (j + 1) 0) p (if i + (j + 1) ≤ i then d else S (i + (j + 1))) (if i + (j + 1) + 1 ≤ i then d else S (i + (j + 1) + 1))
     rw [if_neg (by omega), if_neg (by omega)]
     rw [show i + (j + 1) = i + 1 + j by omega]
     simpa using this
  ·cases h
end Go.Proofs.YtflnpcgnenhogaaGreatDoor.ev

namespace Go.Proofs.YtflnpcgnenhogaaGreatDoor.ev
open Go Go.RowKit

def Wr (S : Nat → D) (i : Nat) : Prop := (S (i + 1)).ws = i :: (S i).ws
def dstOf (ops : Array Oper) (i : Nat) : Option Tmp := (ops[i]?).bind (·.dst)
noncomputable def Fr (S : Nat → D) (ops : Array Oper) (L : Nat → Bool) : Nat → Nat → Value
 | 0, t => (S 0).f.get t
 | n + 1, t => if L n = true ∧ dstOf ops n = some t then (S (n + 1)).f.get t else Fr S ops L n t
def upd (L : Nat → Bool) (i : Nat) : Nat → Bool := fun j => if j = i then true else L j
def Closed (ops : Array Oper) (L : Nat → Bool) : Prop := ∀ (i : Nat) (o : Oper), L i = true → ops[i]? = some o → ∀ e ∈ o.after, Region.binds .any e = true → L e.on = true

section
variable {P : Program} {tab : Tab} {rec : Code → F → H → Option R} {ops : Array Oper} {ms : Nat → Nat} {S : Nat → D} {f0 : F} {h0 : H} {top : Nat}

theorem SC.put {i m : Nat} {o : Oper} {d d' : D} (s : SC P tab rec ops i m o d d') : ∃ v, d.f.put o.dst v = some d'.f := by
 cases s with
 | off hw hp => exact ⟨_, hp⟩
 | pure hw hk hh hx hp => exact ⟨_, hp⟩
 | read hw hk hx hp hs => exact ⟨_, hp⟩
 | make hw hk hx hp => exact ⟨_, hp⟩
 | write hw hl ha hx hp hq => exact ⟨_, hp⟩
theorem SC.ws {i m : Nat} {o : Oper} {d d' : D} (s : SC P tab rec ops i m o d d') : (d'.ws = d.ws ∧ d'.h = d.h ∧ d'.old = d.old) ∨
  (d'.ws = i :: d.ws ∧ d'.old = d.h :: d.old ∧ (∀ j js, d.ws = j :: js → m.testBit j = true) ∧ qsOk P m d.made d'.h d.qs = true) := by
 cases s with
 | off hw hp => exact .inl ⟨rfl, rfl, rfl⟩
 | pure hw hk hh hx hp => exact .inl ⟨rfl, rfl, rfl⟩
 | read hw hk hx hp hs => exact .inl ⟨rfl, rfl, rfl⟩
 | make hw hk hx hp => exact .inl ⟨rfl, rfl, rfl⟩
 | write hw hl ha hx hp hq => exact .inr ⟨rfl, rfl, hl, hq⟩
theorem SC.made {i m : Nat} {o : Oper} {d d' : D} (s : SC P tab rec ops i m o d d') : (d'.made = d.made ∧ d'.nid = d.nid) ∨ ∃ r, d'.made = ⟨i, d.nid, r⟩ :: d.made ∧ d'.nid = d.nid + 1 := by
 cases s with
 | off hw hp => exact .inl ⟨rfl, rfl⟩
 | pure hw hk hh hx hp => exact .inl ⟨rfl, rfl⟩
 | read hw hk hx hp hs => exact .inl ⟨rfl, rfl⟩
 | make hw hk hx hp => exact .inr ⟨_, rfl, rfl⟩
 | write hw hl ha hx hp hq => exact .inl ⟨rfl, rfl⟩
theorem SC.qs {i m : Nat} {o : Oper} {d d' : D} (s : SC P tab rec ops i m o d d') : ∀ q ∈ d.qs, q ∈ d'.qs := by
 intro q hq0
 cases s with
 | off hw hp => exact hq0
 | pure hw hk hh hx hp => exact hq0
 | read hw hk hx hp hs => exact List.mem_cons_of_mem _ hq0
 | make hw hk hx hp => exact hq0
 | write hw hl ha hx hp hq => exact hq0

theorem at_op {i : Nat} (h : i < ops.size) : ∃ o, ops[i]? = some o := ⟨ops[i], Array.getElem?_eq_getElem h⟩
theorem op_lt {i : Nat} {o : Oper} (h : ops[i]? = some o) : i < ops.size := by
 rcases Nat.lt_or_ge i ops.size with h' | h'
 ·exact h'
 ·rw [Array.getElem?_eq_none h'] at h; cases h

theorem cons_ne {α : Type} (x : α) (l : List α) : l ≠ x :: l := fun h => by have := congrArg List.length h; simp at this

variable (t : Tr P tab rec ops ms S f0 h0 top)
include t

theorem Tr.same : ∀ n, n ≤ ops.size → (S n).f.sz = f0.sz ∧ (S n).f.ds = f0.ds ∧ (S n).f.rd = f0.rd
 | 0, _ => by rw [t.start]; exact ⟨rfl, rfl, rfl⟩
 | n + 1, hn => by
  obtain ⟨o, ho⟩ := at_op (ops := ops) (i := n) (by omega)
  obtain ⟨v, hp⟩ := (t.step n o ho).put
  obtain ⟨h1, h2, h3, _⟩ := put_inv hp
  obtain ⟨g1, g2, g3⟩ := Tr.same n (by omega)
  exact ⟨h1.trans g1, h2.trans g2, h3.trans g3⟩
theorem Tr.get {i : Nat} {o : Oper} (ho : ops[i]? = some o) {x : Tmp} (hx : dstOf ops i ≠ some x) : (S (i + 1)).f.get x = (S i).f.get x := by
 obtain ⟨v, hp⟩ := (t.step i o ho).put
 obtain ⟨_, _, _, _, h5⟩ := put_inv hp
 rw [h5 x, if_neg]
 simpa [dstOf, ho] using hx

theorem Tr.fr_eq {L : Nat → Bool} {i : Nat} {x : Tmp} (hi : i ≤ ops.size) (hL : ∀ j, j < ops.size → dstOf ops j = some x → (L j = true ↔ j < i)) : ∀ n, n ≤ ops.size → Fr S ops L n x = (S (min n i)).f.get x
 | 0, _ => by simp [Fr]
 | n + 1, hn => by
  have ih := Tr.fr_eq hi hL n (by omega)
  obtain ⟨o, ho⟩ := at_op (ops := ops) (i := n) (by omega)
  unfold Fr
  by_cases hlt : n < i
  ·rw [show min (n + 1) i = n + 1 by omega]
   rw [show min n i = n by omega] at ih
   split
   ·rfl
   ·rename_i hc
    rw [ih]
    refine (t.get ho fun hd => hc ⟨(hL n (by omega) hd).2 hlt, hd⟩).symm
  ·rw [show min (n + 1) i = i by omega]
   rw [show min n i = i by omega] at ih
   rw [if_neg, ih]
   rintro ⟨c1, c2⟩
   exact hlt ((hL n (by omega) c2).1 c1)

omit t in
theorem Fr_upd {L : Nat → Bool} {i : Nat} {x : Tmp} (hLi : L i = false) (hgt : ∀ j, i < j → L j = true → dstOf ops i = some x → dstOf ops j ≠ some x) : ∀ n, Fr S ops (upd L i) n x = if i < n ∧ dstOf ops i = some x then (S (i + 1)).f.get x else Fr S ops L n x
 | 0 => by simp [Fr]
 | n + 1 => by
  have ih := Fr_upd hLi hgt n
  unfold Fr
  rw [ih]
  by_cases hn : n = i
  ·subst hn
   simp [upd, hLi]
  ·simp only [upd, hn, if_false]
   by_cases hc : L n = true ∧ dstOf ops n = some x
   ·rw [if_pos hc, if_pos hc]
    by_cases hd : i < n + 1 ∧ dstOf ops i = some x
    ·exact absurd hc.2 (hgt n (by omega) hc.1 hd.2)
    ·rw [if_neg hd]
   ·rw [if_neg hc, if_neg hc]
    by_cases hin : i < n
    ·by_cases hd : dstOf ops i = some x
     ·rw [if_pos ⟨hin, hd⟩, if_pos ⟨by omega, hd⟩]
     ·rw [if_neg (fun h => hd h.2), if_neg (fun h => hd h.2)]
    ·rw [if_neg (fun h => hin h.1), if_neg (fun h => hin (by omega))]

theorem Tr.not_wr {i : Nat} {o : Oper} (ho : ops[i]? = some o) (hw : ¬ Wr S i) : (S (i + 1)).ws = (S i).ws ∧ (S (i + 1)).h = (S i).h ∧ (S (i + 1)).old = (S i).old := by
 rcases (t.step i o ho).ws with h | h
 ·exact h
 ·exact absurd h.1 hw
theorem Tr.is_wr {i : Nat} {o : Oper} (ho : ops[i]? = some o) (hw : Wr S i) : (S (i + 1)).old = (S i).h :: (S i).old ∧ (∀ j js, (S i).ws = j :: js → (ms i).testBit j = true) ∧ qsOk P (ms i) (S i).made (S (i + 1)).h (S i).qs = true := by
 rcases (t.step i o ho).ws with h | h
 ·unfold Wr at hw
  rw [h.1] at hw
  exact absurd hw (cons_ne _ _)
 ·exact h.2
theorem Tr.mem_ws {j : Nat} : ∀ n, n ≤ ops.size → (j ∈ (S n).ws ↔ j < n ∧ Wr S j)
 | 0, _ => by rw [t.start]; simp
 | n + 1, hn => by
  obtain ⟨o, ho⟩ := at_op (ops := ops) (i := n) (by omega)
  have ih := Tr.mem_ws (j := j) n (by omega)
  by_cases hw : Wr S n
  ·have h1 : (S (n + 1)).ws = n :: (S n).ws := hw
   rw [h1, List.mem_cons, ih]
   constructor
   ·rintro (rfl | ⟨h2, h3⟩)
    ·exact ⟨by omega, hw⟩
    ·exact ⟨by omega, h3⟩
   ·rintro ⟨h2, h3⟩
    by_cases hj : j = n
    ·exact .inl hj
    ·exact .inr ⟨by omega, h3⟩
  ·rw [(t.not_wr ho hw).1, ih]
   constructor
   ·rintro ⟨h2, h3⟩; exact ⟨by omega, h3⟩
   ·rintro ⟨h2, h3⟩
    by_cases hj : j = n
    ·subst hj; exact absurd h3 hw
    ·exact ⟨by omega, h3⟩
theorem Tr.head_ws {j0 : Nat} {js : List Nat} : ∀ n, n ≤ ops.size → (S n).ws = j0 :: js → ∀ j, j < n → Wr S j → j ≤ j0
 | 0, _, _, j, hj, _ => by omega
 | n + 1, hn, h, j, hj, hwj => by
  obtain ⟨o, ho⟩ := at_op (ops := ops) (i := n) (by omega)
  by_cases hw : Wr S n
  ·have h1 : (S (n + 1)).ws = n :: (S n).ws := hw
   rw [h1] at h
   injection h with h _
   omega
  ·rw [(t.not_wr ho hw).1] at h
   by_cases hjn : j = n
   ·subst hjn; exact absurd hwj hw
   ·exact Tr.head_ws n (by omega) h j (by omega) hwj

theorem Tr.mask_in {L : Nat → Bool} (hc : Closed ops L) {b : Nat} : ∀ (j : Nat) (o : Oper), ops[j]? = some o → (∀ e ∈ o.after, Region.binds .any e = true → L e.on = true) → (ms j).testBit b = true → L b = true := by
 intro j
 induction j using Nat.strongRecOn with
 | ind j ih =>
  intro o ho he hb
  obtain ⟨e, h1, h2, h3⟩ := t.fore.mask j o b ho hb
  rcases h3 with h3 | ⟨h3, h4⟩
  ·subst h3; exact he e h1 h2
  ·have hl := he e h1 h2
   obtain ⟨o', ho'⟩ := at_op (ops := ops) (i := e.on) (by have := op_lt ho; omega)
   exact ih e.on h3 o' ho' (hc _ _ hl ho') h4

theorem Tr.wr_in {L : Nat → Bool} (hc : Closed ops L) {i : Nat} (hwi : Wr S i) : ∀ (j : Nat) (o : Oper), ops[j]? = some o → (∀ e ∈ o.after, Region.binds .any e = true → L e.on = true) → Wr S j → i < j → L i = true := by
 intro j
 induction j using Nat.strongRecOn with
 | ind j ih =>
  intro o ho he hwj hij
  have hjs := op_lt ho
  have hm := (t.mem_ws (j := i) j (by omega)).2 ⟨hij, hwi⟩
  obtain ⟨_, h2, _⟩ := t.is_wr ho hwj
  cases hws : (S j).ws with
  | nil => rw [hws] at hm; simp at hm
  | cons j0 js =>
   have hl := t.mask_in hc j o ho he (h2 j0 js hws)
   have hle := t.head_ws j (by omega) hws i hij hwi
   have hj0 := (t.mem_ws (j := j0) j (by omega)).1 (by rw [hws]; simp)
   rcases Nat.lt_or_ge i j0 with hlt | hge
   ·obtain ⟨o', ho'⟩ := at_op (ops := ops) (i := j0) (by omega)
    exact ih j0 hj0.1 o' ho' (hc _ _ hl ho') hj0.2 hlt
   ·have : i = j0 := by omega
    subst this; exact hl

theorem Tr.h_same {n : Nat} : ∀ k, n + k ≤ ops.size → (∀ j, n ≤ j → j < n + k → ¬ Wr S j) → (S (n + k)).h = (S n).h
 | 0, _, _ => rfl
 | k + 1, hk, hn => by
  obtain ⟨o, ho⟩ := at_op (ops := ops) (i := n + k) (by omega)
  rw [← Nat.add_assoc, (t.not_wr ho (hn _ (by omega) (by omega))).2.1]
  exact Tr.h_same k (by omega) fun j h1 h2 => hn j h1 (by omega)

theorem Tr.nid_le {n : Nat} : ∀ k, n + k ≤ ops.size → (S n).nid ≤ (S (n + k)).nid
 | 0, _ => Nat.le_refl _
 | k + 1, hk => by
  obtain ⟨o, ho⟩ := at_op (ops := ops) (i := n + k) (by omega)
  have ih := Tr.nid_le (n := n) k (by omega)
  rw [← Nat.add_assoc]
  rcases (t.step _ o ho).made with h | ⟨r, h⟩
  ·rw [h.2]; exact ih
  ·rw [h.2]; omega
theorem Tr.nid0 {n : Nat} (hn : n ≤ ops.size) : h0.next ≤ (S n).nid := by
 have := t.nid_le (n := 0) n (by omega)
 rw [Nat.zero_add, t.start] at this
 exact this
theorem Tr.made_lt {p : PE} : ∀ n, n ≤ ops.size → p ∈ (S n).made → p.i < n ∧ h0.next ≤ p.id ∧ p.id < (S n).nid
 | 0, _, h => by rw [t.start] at h; simp at h
 | n + 1, hn, h => by
  obtain ⟨o, ho⟩ := at_op (ops := ops) (i := n) (by omega)
  rcases (t.step n o ho).made with h1 | ⟨r, h1⟩
  ·rw [h1.1] at h
   obtain ⟨a, b, c⟩ := Tr.made_lt n (by omega) h
   exact ⟨by omega, b, by rw [h1.2]; exact c⟩
  ·rw [h1.1, List.mem_cons] at h
   rcases h with rfl | h
   ·exact ⟨by simp, t.nid0 (by omega), by rw [h1.2]; simp⟩
   ·obtain ⟨a, b, c⟩ := Tr.made_lt n (by omega) h
    exact ⟨by omega, b, by rw [h1.2]; omega⟩
theorem Tr.made_split {p : PE} {n : Nat} : ∀ k, n + k ≤ ops.size → p ∈ (S (n + k)).made → p ∈ (S n).made ∨ (n ≤ p.i ∧ (S n).nid ≤ p.id)
 | 0, _, h => .inl h
 | k + 1, hk, h => by
  obtain ⟨o, ho⟩ := at_op (ops := ops) (i := n + k) (by omega)
  rw [← Nat.add_assoc] at h
  rcases (t.step _ o ho).made with h1 | ⟨r, h1⟩
  ·rw [h1.1] at h; exact Tr.made_split k (by omega) h
  ·rw [h1.1, List.mem_cons] at h
   rcases h with rfl | h
   ·exact .inr ⟨by simp, t.nid_le k (by omega)⟩
   ·exact Tr.made_split k (by omega) h
theorem Tr.made_sub {p : PE} {n : Nat} : ∀ k, n + k ≤ ops.size → p ∈ (S n).made → p ∈ (S (n + k)).made
 | 0, _, h => h
 | k + 1, hk, h => by
  obtain ⟨o, ho⟩ := at_op (ops := ops) (i := n + k) (by omega)
  have ih := Tr.made_sub k (by omega) h
  rw [← Nat.add_assoc]
  rcases (t.step _ o ho).made with h1 | ⟨r, h1⟩
  ·rw [h1.1]; exact ih
  ·rw [h1.1]; exact List.mem_cons_of_mem _ ih
theorem Tr.made_top {p : PE} {n : Nat} (hn : n ≤ ops.size) (h : p ∈ (S n).made) : p ∈ (S ops.size).made := by
 have := t.made_sub (n := n) (ops.size - n) (by omega) h
 rwa [show n + (ops.size - n) = ops.size by omega] at this
theorem Tr.made_or {p : PE} {n : Nat} (hn : n ≤ ops.size) (h : p ∈ (S ops.size).made) : p ∈ (S n).made ∨ (n ≤ p.i ∧ (S n).nid ≤ p.id) :=
 t.made_split (n := n) (ops.size - n) (by omega) (by rwa [show n + (ops.size - n) = ops.size by omega])
theorem Tr.qs_sub {q : QE} {n : Nat} : ∀ k, n + k ≤ ops.size → q ∈ (S n).qs → q ∈ (S (n + k)).qs
 | 0, _, h => h
 | k + 1, hk, h => by
  obtain ⟨o, ho⟩ := at_op (ops := ops) (i := n + k) (by omega)
  exact (t.step _ o ho).qs q (Tr.qs_sub k (by omega) h)

/-! ### what is read at another moment -/
omit t in
theorem sameAt_spec {m : Nat} {made : List PE} {o : Oper} {g : F} {v : Value} {h : H} : ∀ hs, sameAt P m made o g v hs = true → h ∈ hs → xqAt P m made o g h = some v
 | [], _, hm => by simp at hm
 | h1 :: hs, hx, hm => by
  simp only [sameAt, Bool.and_eq_true] at hx
  rcases List.mem_cons.1 hm with rfl | hm
  ·have h2 := hx.1
   split at h2
   ·rename_i u hu; rw [hu, veq_eq 7 v u h2]
   ·cases h2
  ·exact sameAt_spec hs hx.2 hm
omit t in
theorem qsOk_spec {m : Nat} {made : List PE} {h : H} {q : QE} : ∀ qs, qsOk P m made h qs = true → q ∈ qs → m.testBit q.i = true ∨ xqAt P q.m made q.o q.g h = some q.v
 | [], _, hm => by simp at hm
 | q1 :: qs, hx, hm => by
  simp only [qsOk, Bool.and_eq_true, Bool.or_eq_true] at hx
  rcases List.mem_cons.1 hm with rfl | hm
  ·rcases hx.1 with h1 | h2
   ·exact .inl h1
   ·split at h2
    ·rename_i u hu; exact .inr (by rw [hu, veq_eq 7 _ u h2])
    ·cases h2
  ·exact qsOk_spec qs hx.2 hm
omit t in
theorem freeW_gt {m : Nat} : ∀ (ws : List Nat) (r : Nat), (∀ x ∈ ws.take (r + 1), m.testBit x = false) → r < ws.length → r < freeW m ws
 | [], r, _, h => by simp at h
 | j :: js, r, h, hl => by
  have hj := h j (by simp)
  simp only [freeW, hj, cond_false]
  cases r with
  | zero => omega
  | succ r =>
   have := freeW_gt js r (fun x hx => h x (by simp [hx])) (by simpa using hl)
   omega

theorem Tr.old_at {q : Nat} : ∀ k, q + k ≤ ops.size → (S (q + k)).h = (S q).h ∨ ∃ r, (S (q + k)).old[r]? = some (S q).h ∧ (∀ x ∈ (S (q + k)).ws.take (r + 1), q ≤ x) ∧ r < (S (q + k)).ws.length
 | 0, _ => .inl rfl
 | k + 1, hk => by
  obtain ⟨o, ho⟩ := at_op (ops := ops) (i := q + k) (by omega)
  have ih := Tr.old_at (q := q) k (by omega)
  rw [← Nat.add_assoc]
  by_cases hw : Wr S (q + k)
  ·have h1 : (S (q + k + 1)).ws = (q + k) :: (S (q + k)).ws := hw
   have h2 := (t.is_wr ho hw).1
   rw [h1, h2]
   rcases ih with h | ⟨r, e1, e2, e3⟩
   ·exact .inr ⟨0, by simp [h], by simp, by simp⟩
   ·refine .inr ⟨r + 1, by simpa using e1, fun x hx => ?_, by simpa using e3⟩
    rw [List.take_succ_cons, List.mem_cons] at hx
    rcases hx with rfl | hx
    ·omega
    ·exact e2 x hx
  ·obtain ⟨h1, h2, h3⟩ := t.not_wr ho hw
   rw [h1, h2, h3]
   exact ih

theorem Tr.read_on {i : Nat} {v : Value} {o : Oper} (hx : xqAt P (ms i) (S i).made o (S i).f (S i).h = some v) (hnw : ¬ Wr S i) (hq : (⟨i, ms i, o, (S i).f, v⟩ : QE) ∈ (S (i + 1)).qs) : ∀ k, i + k ≤ ops.size → (∀ j, i < j → j < i + k → Wr S j → (ms j).testBit i = false) →
  ∃ made, (∀ p ∈ made, p ∈ (S ops.size).made) ∧ xqAt P (ms i) made o (S i).f (S (i + k)).h = some v
 | 0, hk, _ => ⟨(S i).made, fun p hp => t.made_top (by omega) hp, hx⟩
 | k + 1, hk, hn => by
  obtain ⟨p, hp⟩ := at_op (ops := ops) (i := i + k) (by omega)
  by_cases hw : Wr S (i + k)
  ·cases k with
   | zero => exact absurd hw hnw
   | succ k =>
    have h1 := (t.is_wr hp hw).2.2
    have h2 := t.qs_sub (n := i + 1) k (by omega) hq
    rw [show i + 1 + k = i + (k + 1) by omega] at h2
    rcases qsOk_spec _ h1 h2 with h3 | h3
    ·rw [hn (i + (k + 1)) (by omega) (by omega) hw] at h3; cases h3
    ·exact ⟨(S (i + (k + 1))).made, fun p hp => t.made_top (by omega) hp, h3⟩
  ·rw [← Nat.add_assoc, (t.not_wr hp hw).2.1]
   exact Tr.read_on hx hnw hq k (by omega) fun j a b c => hn j a (by omega) c
end

theorem activate_inv {m : Nat} : ∀ (ps : List PE) (h g : H), activate m ps h = some g → g.next = h.next ∧ (∀ k o, h.heap.get k = some o → g.heap.get k = some o) ∧
  ∀ k o, g.heap.get k = some o → h.heap.get k = some o ∨ (h.heap.get k = none ∧ ∃ p ∈ ps, m.testBit p.i = true ∧ p.id = k ∧ p.r = o)
 | [], h, g, e => by
  simp only [activate, Option.some.injEq] at e; subst e
  exact ⟨rfl, fun _ _ h => h, fun _ _ h => .inl h⟩
 | p :: ps, h, g, e => by
  have go : ∀ h1, activate m ps h1 = some g → h1 = h → g.next = h.next ∧ (∀ k o, h.heap.get k = some o → g.heap.get k = some o) ∧
    ∀ k o, g.heap.get k = some o → h.heap.get k = some o ∨ (h.heap.get k = none ∧ ∃ p' ∈ p :: ps, m.testBit p'.i = true ∧ p'.id = k ∧ p'.r = o) := fun h1 e1 e2 => by
   subst e2
   obtain ⟨a, b, c⟩ := activate_inv ps h1 g e1
   refine ⟨a, b, fun k o hk => (c k o hk).imp id ?_⟩
   rintro ⟨d1, p', d2, d3⟩
   exact ⟨d1, p', List.mem_cons_of_mem _ d2, d3⟩
  simp only [activate] at e
  cases hb : m.testBit p.i with
  | false => rw [hb] at e; exact go h e rfl
  | true =>
   rw [hb] at e
   simp only [cond_true] at e
   split at e
   ·exact go h e rfl
   ·rename_i hn
    split at e
    ·rename_i h1 hs
     obtain ⟨s1, s2, s3⟩ := H.set_inv hs
     obtain ⟨a, b, c⟩ := activate_inv ps h1 g e
     refine ⟨a.trans s1, fun k o hk => b k o ?_, fun k o hk => ?_⟩
     ·by_cases hkp : k = p.id
      ·subst hkp; rw [hn] at hk; cases hk
      ·rw [s3 k hkp]; exact hk
     ·by_cases hkp : k = p.id
      ·subst hkp
       refine .inr ⟨hn, p, List.mem_cons_self, hb, rfl, ?_⟩
       have := b _ _ s2
       rw [this] at hk; injection hk
      ·rcases c k o hk with c1 | ⟨c1, p', c2, c3⟩
       ·rw [s3 k hkp] at c1; exact .inl c1
       ·rw [s3 k hkp] at c1; exact .inr ⟨c1, p', List.mem_cons_of_mem _ c2, c3⟩
    ·cases e

theorem activateAll_inv : ∀ (ps : List PE) (h g : H), activateAll ps h = some g → g.next = h.next ∧ (∀ k o, h.heap.get k = some o → g.heap.get k = some o) ∧
  ∀ k o, g.heap.get k = some o → h.heap.get k = some o ∨ (h.heap.get k = none ∧ ∃ p ∈ ps, p.id = k ∧ p.r = o)
 | [], h, g, e => by
  simp only [activateAll, Option.some.injEq] at e; subst e
  exact ⟨rfl, fun _ _ h => h, fun _ _ h => .inl h⟩
 | p :: ps, h, g, e => by
  simp only [activateAll] at e
  split at e
  ·obtain ⟨a, b, c⟩ := activateAll_inv ps h g e
   refine ⟨a, b, fun k o hk => (c k o hk).imp id ?_⟩
   rintro ⟨d1, p', d2, d3⟩
   exact ⟨d1, p', List.mem_cons_of_mem _ d2, d3⟩
  ·rename_i hn
   split at e
   ·rename_i h1 hs
    obtain ⟨s1, s2, s3⟩ := H.set_inv hs
    obtain ⟨a, b, c⟩ := activateAll_inv ps h1 g e
    refine ⟨a.trans s1, fun k o hk => b k o ?_, fun k o hk => ?_⟩
    ·by_cases hkp : k = p.id
     ·subst hkp; rw [hn] at hk; cases hk
     ·rw [s3 k hkp]; exact hk
    ·by_cases hkp : k = p.id
     ·subst hkp
      refine .inr ⟨hn, p, List.mem_cons_self, rfl, ?_⟩
      have := b _ _ s2
      rw [this] at hk; injection hk
     ·rcases c k o hk with c1 | ⟨c1, p', c2, c3⟩
      ·rw [s3 k hkp] at c1; exact .inl c1
      ·rw [s3 k hkp] at c1; exact .inr ⟨c1, p', List.mem_cons_of_mem _ c2, c3⟩
   ·cases e

theorem xq_still {P : Program} {o : Oper} {g : Nat → Value} {h h' : H} (hh : readsHeap o.op = false) : xq P o g h = xq P o g h' := by
 obtain ⟨dst, op, type, pos, after, guard⟩ := o
 cases op <;> first
  | rfl
  | (simp [readsHeap] at hh; done)
end Go.Proofs.YtflnpcgnenhogaaGreatDoor.ev

namespace Go.Proofs.YtflnpcgnenhogaaGreatDoor.ev
open Go Go.RowKit

structure Inv (B : Nat) (ops : Array Oper) (S : Nat → D) (f0 : F) (h0 : H) (top : Nat) (σ0 : Sg) (w0 : World) (L : Nat → Bool) (q : Nat) (σ : Sg) (hp : Nat → Option AO) (a : Act) (w : World) : Prop where
 closed : Closed ops L
 qle : q ≤ ops.size
 cut : ∀ j, j < ops.size → Wr S j → (L j = true ↔ j < q)
 sub : ∀ k o, (S q).h.heap.get k = some o → hp k = some o
 has : ∀ p ∈ (S ops.size).made, L p.i = true → hp p.id = some p.r ∨ ∃ o, (S q).h.heap.get p.id = some o
 hasnt : ∀ p ∈ (S ops.size).made, L p.i = false → hp p.id = none ∧ σ p.id = none
 st : Step B σ0 h0.heap.get h0.next w0 σ hp (S q).h.next w
 nx : h0.next + top ≤ (S q).h.next
 keepS : ∀ k o, h0.heap.get k = some o → ∃ o', (S q).h.heap.get k = some o'
 size : a.tmps.size = f0.sz
 slot : ∀ x, VR σ (Fr S ops L ops.size x) (a.tmps.getD x undef)
 ds : DR σ0 f0.ds a.defers

section
variable {B : Nat} {P : Program} {tab : Tab} {rec : Code → F → H → Option R} {ops : Array Oper} {ms : Nat → Nat} {S : Nat → D} {f0 : F} {h0 : H} {top : Nat} {σ0 : Sg} {w0 : World} {L : Nat → Bool} {q : Nat} {σ : Sg} {hp : Nat → Option AO} {a : Act} {w : World}

theorem upd_closed (hc : Closed ops L) {i : Nat} {o : Oper} (ho : ops[i]? = some o) (he : ∀ e ∈ o.after, Region.binds .any e = true → L e.on = true) : Closed ops (upd L i) := by
 intro j p hj hp e h1 h2
 have : L e.on = true := by
  unfold upd at hj
  split at hj
  ·rename_i hji; subst hji
   rw [ho] at hp; injection hp with hp; subst hp
   exact he e h1 h2
  ·exact hc j p hj hp e h1 h2
 unfold upd
 split <;> first | rfl | exact this

theorem edges_of (hc : Closed ops L) {j : Nat} {o : Oper} (hl : L j = true) (ho : ops[j]? = some o) : ∀ e ∈ o.after, Region.binds .any e = true → L e.on = true := hc j o hl ho

/-- a slot that operation i looks at -/
theorem Inv.looks (t : Tr P tab rec ops ms S f0 h0 top) (v : Inv B ops S f0 h0 top σ0 w0 L q σ hp a w) {i : Nat} {o : Oper} (ho : ops[i]? = some o) (hL : L i = false) (he : ∀ e ∈ o.after, Region.binds .any e = true → L e.on = true) {x : Tmp} (hx : x ∈ o.looksAt ops) :
  VR σ ((S i).f.get x) (a.tmps.getD x undef) := by
 have hi := op_lt ho
 have h1 := t.fr_eq (L := L) (i := i) (x := x) (by omega) (fun j hj hd => ?_) ops.size (Nat.le_refl _)
 ·rw [show min ops.size i = i by omega] at h1
  rw [← h1]
  exact v.slot x
 ·obtain ⟨oj, hoj⟩ := at_op hj
  have hdj : oj.dst = some x := by simpa [dstOf, hoj] using hd
  rcases Nat.lt_trichotomy j i with hlt | rfl | hgt
  ·refine ⟨fun _ => hlt, fun _ => ?_⟩
   rcases t.fore.pair j i oj o hlt hoj ho with h2 | h2
   ·exact absurd hx ((Oper.apart_spec h2).1 x hdj)
   ·exact t.mask_in v.closed i o ho he h2
  ·rw [hL]; simp
  ·refine ⟨fun hl => ?_, fun h => absurd h (by omega)⟩
   rcases t.fore.pair i j o oj hgt ho hoj with h2 | h2
   ·exact absurd hx ((Oper.apart_spec h2).2.2 x hdj)
   ·have := t.mask_in v.closed j oj hoj (edges_of v.closed hl hoj) h2
    rw [hL] at this; cases this

theorem Inv.vo (t : Tr P tab rec ops ms S f0 h0 top) (v : Inv B ops S f0 h0 top σ0 w0 L q σ hp a w) {i : Nat} {o : Oper} (ho : ops[i]? = some o) (hL : L i = false) (he : ∀ e ∈ o.after, Region.binds .any e = true → L e.on = true) :
  ∀ x ∈ o.op.operands.toList, VO σ (S i).f.get a x := by
 intro x hx
 refine VO.of v.st.hr.glob x fun y hy => ?_
 subst hy
 refine v.looks t ho hL he ?_
 unfold Oper.looksAt
 exact List.mem_append_left _ (List.mem_filterMap.2 ⟨.tmp y, hx, rfl⟩)

theorem Inv.wanted (t : Tr P tab rec ops ms S f0 h0 top) (v : Inv B ops S f0 h0 top σ0 w0 L q σ hp a w) {i : Nat} {o : Oper} (ho : ops[i]? = some o) (hL : L i = false) (he : ∀ e ∈ o.after, Region.binds .any e = true → L e.on = true) :
  wantedA ops o (S i).f.get = Region.wanted o (yielded ops a.tmps) := by
 refine wantedA_eq fun j want p d hg hj hd => v.looks t ho hL he ?_
 unfold Oper.looksAt
 refine List.mem_append_right _ ?_
 rw [hg]
 simp [hj, hd]

/-- the slots, once operation i has put its own -/
theorem Inv.slots (t : Tr P tab rec ops ms S f0 h0 top) (v : Inv B ops S f0 h0 top σ0 w0 L q σ hp a w) {i : Nat} {o : Oper} (ho : ops[i]? = some o) (hL : L i = false) {σ' : Sg} (hle : σ.le σ') {x u : Value} (hput : (S i).f.put o.dst x = some (S (i + 1)).f) (hu : VR σ' x u) :
  (a.put o.dst u).tmps.size = f0.sz ∧ ∀ y, VR σ' (Fr S ops (upd L i) ops.size y) ((a.put o.dst u).tmps.getD y undef) := by
 have hi := op_lt ho
 obtain ⟨p1, _, _, p4, p5⟩ := put_inv hput
 have hsz : (S i).f.sz = f0.sz := (t.same i (by omega)).1
 have hd : ∀ d, o.dst = some d → d < a.tmps.size := fun d hd => by rw [v.size, ← hsz]; exact p4 d hd
 refine ⟨?_, fun y => ?_⟩
 ·rw [← v.size]
  cases o.dst <;> simp [Act.put]
 ·rw [getD_put a o.dst u hd y, Fr_upd (L := L) (i := i) (x := y) hL (fun j hij hl hdi hdj => ?_) ops.size]
  ·have hdo : dstOf ops i = o.dst := by simp [dstOf, ho]
   rw [hdo]
   by_cases hy : o.dst = some y
   ·rw [if_pos ⟨hi, hy⟩, if_pos hy, p5 y, if_pos hy]
    exact hu
   ·rw [if_neg (fun h => hy h.2), if_neg hy]
    exact (v.slot y).mono hle
  ·rcases Nat.lt_or_ge j ops.size with hjs | hjs
   ·obtain ⟨oj, hoj⟩ := at_op hjs
    rcases t.fore.pair i j o oj hij ho hoj with h2 | h2
    ·have h3 : o.dst = some y := by simpa [dstOf, ho] using hdi
     have h4 : oj.dst = some y := by simpa [dstOf, hoj] using hdj
     exact (Oper.apart_spec h2).2.1 y h3 h4
    ·have := t.mask_in v.closed j oj hoj (edges_of v.closed hl hoj) h2
     rw [hL] at this; cases this
   ·simp [dstOf, Array.getElem?_eq_none hjs] at hdj

theorem Inv.ds_put (v : Inv B ops S f0 h0 top σ0 w0 L q σ hp a w) (dst : Option Tmp) (u : Value) : DR σ0 f0.ds (a.put dst u).defers := by
 have := v.ds
 cases dst <;> exact this

/-- the heap at i is the one that stands -/
theorem Inv.same_h (t : Tr P tab rec ops ms S f0 h0 top) (v : Inv B ops S f0 h0 top σ0 w0 L q σ hp a w) {i : Nat} {o : Oper} (ho : ops[i]? = some o) (hL : L i = false) (he : ∀ e ∈ o.after, Region.binds .any e = true → L e.on = true) (hw : Wr S i) : (S q).h = (S i).h := by
 have hi := op_lt ho
 have hbelow : ∀ j, j < i → Wr S j → L j = true := fun j hj hwj => t.wr_in v.closed hwj i o ho he hw hj
 have habove : ∀ j, i ≤ j → j < ops.size → Wr S j → L j = false := fun j hij hjs hwj => by
  rcases Nat.lt_or_ge i j with hlt | hge
  ·cases hl : L j with
   | false => rfl
   | true =>
    obtain ⟨oj, hoj⟩ := at_op hjs
    have := t.wr_in v.closed hw j oj hoj (edges_of v.closed hl hoj) hwj hlt
    rw [hL] at this; cases this
  ·have : j = i := by omega
   subst this; exact hL
 rcases Nat.le_total q i with hqi | hqi
 ·have := t.h_same (n := q) (i - q) (by omega) fun j h1 h2 hwj => by
   have := (v.cut j (by omega) hwj).1 (hbelow j (by omega) hwj)
   omega
  rw [show q + (i - q) = i by omega] at this
  exact this.symm
 ·have hq := v.qle
  have := t.h_same (n := i) (q - i) (by omega) fun j h1 h2 hwj => by
   have h3 := (v.cut j (by omega) hwj).2 (by omega)
   rw [habove j h1 (by omega) hwj] at h3; cases h3
  rw [show i + (q - i) = q by omega] at this
  exact this

/-- what is laid for a reader is there -/
theorem Inv.act_sub (v : Inv B ops S f0 h0 top σ0 w0 L q σ hp a w) {m : Nat} {made : List PE} {g : H} (hm : ∀ b, m.testBit b = true → L b = true) (hmade : ∀ p ∈ made, p ∈ (S ops.size).made) (hact : activate m made (S q).h = some g) :
  ∀ k o, g.heap.get k = some o → hp k = some o := by
 intro k o hk
 obtain ⟨_, _, h3⟩ := activate_inv _ _ _ hact
 rcases h3 k o hk with h | ⟨h1, p, h2, h4, h5, h6⟩
 ·exact v.sub k o h
 ·rcases v.has p (hmade p h2) (hm _ h4) with h7 | ⟨o', h7⟩
  ·rw [← h5, ← h6]; exact h7
  ·rw [h5, h1] at h7; cases h7

theorem Inv.mask (t : Tr P tab rec ops ms S f0 h0 top) (v : Inv B ops S f0 h0 top σ0 w0 L q σ hp a w) {i : Nat} {o : Oper} (ho : ops[i]? = some o) (he : ∀ e ∈ o.after, Region.binds .any e = true → L e.on = true) : ∀ b, (ms i).testBit b = true → L b = true :=
 fun _ hb => t.mask_in v.closed i o ho he hb

/-- an operation that leaves the memory -/
theorem Inv.stay (t : Tr P tab rec ops ms S f0 h0 top) (v : Inv B ops S f0 h0 top σ0 w0 L q σ hp a w) {i : Nat} {o : Oper} (ho : ops[i]? = some o) (hL : L i = false) (he : ∀ e ∈ o.after, Region.binds .any e = true → L e.on = true) {x u : Value} (hput : (S i).f.put o.dst x = some (S (i + 1)).f) (hu : VR σ x u)
  (hw : ¬ Wr S i) (hmade : (S (i + 1)).made = (S i).made) : Inv B ops S f0 h0 top σ0 w0 (upd L i) q σ hp (a.put o.dst u) w := by
 have hi := op_lt ho
 obtain ⟨s1, s2⟩ := v.slots t ho hL (Sg.le.refl σ) hput hu
 have hne : ∀ p ∈ (S ops.size).made, p.i ≠ i := fun p hp hpi => by
  rcases t.made_or (n := i + 1) (by omega) hp with h1 | h1
  ·rw [hmade] at h1
   have := (t.made_lt i (by omega) h1).1
   omega
  ·omega
 refine ⟨upd_closed v.closed ho he, v.qle, fun j hj hwj => ?_, v.sub, fun p hp hl => v.has p hp (by simpa [upd, hne p hp] using hl), fun p hp hl => v.hasnt p hp (by simpa [upd, hne p hp] using hl), v.st, v.nx, v.keepS, s1, s2, v.ds_put _ _⟩
 have hji : j ≠ i := fun h => hw (h ▸ hwj)
 simp only [upd, hji, if_false]
 exact v.cut j hj hwj

theorem Inv.op (t : Tr P tab rec ops ms S f0 h0 top) (ht : TabOk P tab) (hrec : RecOk P rec) (v : Inv B ops S f0 h0 top σ0 w0 L q σ hp a w) {r : Option Nat} {n : Nat} {i : Nat} {o : Oper} (ho : ops[i]? = some o) (hL : L i = false) (he : ∀ e ∈ o.after, Region.binds .any e = true → L e.on = true)
  {K : Act → World → Prop} {Q : Exit → Act → World → Prop} (hK : ∀ a' w' q' σ' hp', Inv B ops S f0 h0 top σ0 w0 (upd L i) q' σ' hp' a' w' → K a' w') : wpOpIn (FW r) n P ops Q i K a w := by
 have hi := op_lt ho
 unfold wpOpIn
 simp only [ho]
 rw [← v.wanted t ho hL he]
 have hvo := v.vo t ho hL he
 have hmask := v.mask t ho he
 have s := t.step i o ho
 generalize hd' : S (i + 1) = d' at s
 cases s with
 | off hw hput =>
  have hput' : (S i).f.put o.dst undef = some (S (i + 1)).f := by rw [hd']; exact hput
  simp only [hw, Bool.false_eq_true, if_false]
  exact ⟨about_FW w, hK _ _ _ _ _ (v.stay t ho hL he hput' VR.undef (fun h => by unfold Wr at h; rw [hd'] at h; exact cons_ne _ _ h) (by rw [hd']))⟩
 | pure hw hk hh hx hput =>
  rename_i x f'
  have hput' : (S i).f.put o.dst x = some (S (i + 1)).f := by rw [hd']; exact hput
  simp only [hw, if_true]
  rw [xq_still (h' := (S q).h) hh] at hx
  exact opQ_sound (h := (S q).h) (v.st.hr.sub v.sub) hk hvo hx fun u hu =>
   hK _ _ _ _ _ (v.stay t ho hL he hput' hu (fun h => by unfold Wr at h; rw [hd'] at h; exact cons_ne _ _ h) (by rw [hd']))
 | read hw hk hx hput hs =>
  rename_i x f'
  have hput' : (S i).f.put o.dst x = some (S (i + 1)).f := by rw [hd']; exact hput
  have hnw : ¬ Wr S i := fun h => by unfold Wr at h; rw [hd'] at h; exact cons_ne _ _ h
  simp only [hw, if_true]
  have hread : ∃ made, (∀ p ∈ made, p ∈ (S ops.size).made) ∧ xqAt P (ms i) made o (S i).f (S q).h = some x := by
   rcases Nat.le_total q i with hqi | hqi
   ·refine ⟨(S i).made, fun p hp => t.made_top (by omega) hp, ?_⟩
    have h1 := t.old_at (q := q) (i - q) (by omega)
    rw [show q + (i - q) = i by omega] at h1
    rcases h1 with h1 | ⟨k, h1, h2, h3⟩
    ·rw [← h1]; exact hx
    ·have h4 : k < freeW (ms i) (S i).ws := by
      refine freeW_gt _ _ (fun y hy => ?_) h3
      cases hb : (ms i).testBit y with
      | false => rfl
      | true =>
       have h5 := hmask y hb
       have h6 := (t.mem_ws (j := y) i (by omega)).1 (List.mem_of_mem_take hy)
       have h7 := (v.cut y (by omega) h6.2).1 h5
       have h8 := h2 y hy
       omega
     refine sameAt_spec _ hs (List.mem_of_getElem? (i := k) ?_)
     rw [List.getElem?_take_of_lt h4]
     exact h1
   ·have hq := v.qle
    have := t.read_on (i := i) (v := x) (o := o) hx hnw (by rw [hd']; simp) (q - i) (by omega) fun j h1 h2 hwj => by
     cases hb : (ms j).testBit i with
     | false => rfl
     | true =>
      have hl := (v.cut j (by omega) hwj).2 (by omega)
      obtain ⟨oj, hoj⟩ := at_op (ops := ops) (i := j) (by omega)
      have := t.mask_in v.closed j oj hoj (edges_of v.closed hl hoj) hb
      rw [hL] at this; cases this
    rwa [show i + (q - i) = q by omega] at this
  obtain ⟨made, hm1, hm2⟩ := hread
  unfold xqAt at hm2
  split at hm2
  ·rename_i g hact
   exact opQ_sound (h := g) (v.st.hr.sub (v.act_sub hmask hm1 hact)) hk hvo hm2 fun u hu =>
    hK _ _ _ _ _ (v.stay t ho hL he hput' hu hnw (by rw [hd']))
  ·cases hm2
 | make hw hk hx hput =>
  rename_i x rw0 f'
  have hput' : (S i).f.put o.dst x = some (S (i + 1)).f := by rw [hd']; exact hput
  have hnw : ¬ Wr S i := fun h => by unfold Wr at h; rw [hd'] at h; exact cons_ne _ _ h
  simp only [hw, if_true]
  have hnew : (⟨i, (S i).nid, rw0⟩ : PE) ∈ (S ops.size).made := t.made_top (n := i + 1) (by omega) (by rw [hd']; simp)
  obtain ⟨n1, n2⟩ := v.hasnt _ hnew hL
  simp only at n1 n2
  have hid1 : h0.next ≤ (S i).nid := t.nid0 (by omega)
  have hid2 : (S i).nid < (S q).h.next := by
   have h1 := t.nid_le (n := i + 1) (ops.size - (i + 1)) (by omega)
   rw [show i + 1 + (ops.size - (i + 1)) = ops.size by omega] at h1
   have h2 : (S (i + 1)).nid = (S i).nid + 1 := by rw [hd']
   have h3 := t.nid
   have h4 := v.nx
   omega
  have hother : ∀ p ∈ (S ops.size).made, p.i ≠ i → p.id ≠ (S i).nid := fun p hp hpi => by
   rcases t.made_or (n := i + 1) (by omega) hp with h1 | h1
   ·rw [hd'] at h1
    simp only [List.mem_cons] at h1
    rcases h1 with rfl | h1
    ·exact absurd rfl hpi
    ·have := (t.made_lt i (by omega) h1).2.2
     omega
   ·have h2 : (S (i + 1)).nid = (S i).nid + 1 := by rw [hd']
    omega
  have hself : ∀ p ∈ (S ops.size).made, p.i = i → p = ⟨i, (S i).nid, rw0⟩ := fun p hp hpi => by
   rcases t.made_or (n := i + 1) (by omega) hp with h1 | h1
   ·rw [hd'] at h1
    simp only [List.mem_cons] at h1
    rcases h1 with rfl | h1
    ·rfl
    ·have := (t.made_lt i (by omega) h1).1
     omega
   ·omega
  refine opM_sound (σ := σ) hk hvo hx fun u ob hu => ?_
  have hle : σ.le (σ.set (S i).nid w.heap.size 0) := Sg.set_le _ _ n2
  obtain ⟨c1, c2⟩ := hu (σ.set (S i).nid w.heap.size 0) 0 hle (Sg.set_same _ _ _ _)
  obtain ⟨s1, s2⟩ := v.slots t ho hL hle hput' c1
  refine hK _ _ q (σ.set (S i).nid w.heap.size 0) (fun k => if k = (S i).nid then some rw0 else hp k) ⟨upd_closed v.closed ho he, v.qle, fun j hj hwj => ?_, fun k ok hk => ?_, fun p hp hl => ?_, fun p hp hl => ?_, v.st.allocAt hid1 hid2 n1 n2 c2, v.nx, v.keepS, s1, s2, v.ds_put _ _⟩
  ·have hji : j ≠ i := fun h => hnw (h ▸ hwj)
   simp only [upd, hji, if_false]
   exact v.cut j hj hwj
  ·have h1 := v.sub k ok hk
   rw [if_neg (fun h => by rw [h, n1] at h1; cases h1)]
   exact h1
  ·by_cases hpi : p.i = i
   ·rw [hself p hp hpi]
    exact .inl (if_pos rfl)
   ·simp only [upd, hpi, if_false] at hl
    rcases v.has p hp hl with h1 | h1
    ·exact .inl (by rw [if_neg (hother p hp hpi)]; exact h1)
    ·exact .inr h1
  ·by_cases hpi : p.i = i
   ·simp [upd, hpi] at hl
   ·simp only [upd, hpi, if_false] at hl
    obtain ⟨h1, h2⟩ := v.hasnt p hp hl
    exact ⟨by rw [if_neg (hother p hp hpi)]; exact h1, by rw [Sg.set_other _ _ _ (hother p hp hpi)]; exact h2⟩
 | write hw hl hact hx hput hq =>
  rename_i x g h' f'
  have hput' : (S i).f.put o.dst x = some (S (i + 1)).f := by rw [hd']; exact hput
  have hwi : Wr S i := by unfold Wr; rw [hd']
  have hmd : (S (i + 1)).made = (S i).made := by rw [hd']
  have hh' : (S (i + 1)).h = h' := by rw [hd']
  simp only [hw, if_true]
  have hsame := v.same_h t ho hL he hwi
  rw [← hsame] at hact
  have hgsub := v.act_sub hmask (fun p hp => t.made_top (n := i) (by omega) hp) hact
  obtain ⟨g1, g2, g3⟩ := activate_inv _ _ _ hact
  have hne : ∀ p ∈ (S ops.size).made, p.i ≠ i := fun p hp hpi => by
   rcases t.made_or (n := i + 1) (by omega) hp with h1 | h1
   ·rw [hmd] at h1
    have := (t.made_lt i (by omega) h1).1
    omega
   ·omega
  have hidlt : ∀ p ∈ (S ops.size).made, p.id < (S q).h.next := fun p hp => by
   have := (t.made_lt ops.size (Nat.le_refl _) hp).2.2
   have h3 := t.nid
   have h4 := v.nx
   omega
  have hst0 := v.st
  rw [← g1] at hst0 hidlt
  have hnx := v.nx
  rw [← g1] at hnx
  refine opW_sound (h := g) ht hrec (hst0.hr.sub hgsub) hvo hx fun u σ' w' hu hst => ?_
  have hfr := Step.frame hst0.hr hgsub hst
  have hle := hfr.le hst0.hr
  obtain ⟨s1, s2⟩ := v.slots t ho hL hle hput' hu
  refine hK _ _ (i + 1) σ' _ ⟨upd_closed v.closed ho he, by omega, fun j hj hwj => ?_, fun k ok hk => ?_, fun p hp hl => ?_, fun p hp hl => ?_, by rw [hh']; exact hst0.trans hfr, by rw [hh']; exact Nat.le_trans hnx hst.nxle, fun k ok hk => ?_, s1, s2, v.ds_put _ _⟩
  ·by_cases hji : j = i
   ·subst hji; simp [upd]
   ·simp only [upd, hji, if_false]
    rcases Nat.lt_or_ge j i with hlt | hge
    ·exact ⟨fun _ => by omega, fun _ => t.wr_in v.closed hwj i o ho he hwi hlt⟩
    ·refine ⟨fun hlj => ?_, fun h => absurd h (by omega)⟩
     obtain ⟨oj, hoj⟩ := at_op hj
     have := t.wr_in v.closed hwi j oj hoj (edges_of v.closed hlj hoj) hwj (by omega)
     rw [hL] at this; cases this
  ·rw [hh'] at hk
   simp only [hk]
  ·rw [hh']
   simp only [upd, hne p hp, if_false] at hl
   cases hk : h'.heap.get p.id with
   | some o' => exact .inr ⟨o', rfl⟩
   | none =>
    rcases v.has p hp hl with h1 | ⟨o', h1⟩
    ·exact .inl (by simpa [hk] using h1)
    ·obtain ⟨_, h2⟩ := hst.keepS p.id o' (g2 _ _ h1)
     rw [hk] at h2; cases h2
  ·simp only [upd, hne p hp, if_false] at hl
   obtain ⟨h1, h2⟩ := v.hasnt p hp hl
   have h3 := hidlt p hp
   exact ⟨hfr.keepN p.id h3 h1, by rw [hfr.keep p.id h3]; exact h2⟩
  ·rw [hh']
   obtain ⟨o', h1⟩ := v.keepS k ok hk
   exact hst.keepS k o' (g2 _ _ h1)

theorem getD_false {listed : Array Bool} {j : Nat} (h : listed.getD j true = false) : j < listed.size ∧ listed.getD j false = false := by
 rcases Nat.lt_or_ge j listed.size with h' | h'
 ·simp [h'] at h ⊢; exact h
 ·simp [Array.getElem?_eq_none h'] at h
theorem getD_true {listed : Array Bool} {j : Nat} (hj : j < listed.size) (h : listed.getD j false = false) : listed.getD j true = false := by
 simp [hj] at h ⊢; exact h
theorem upd_listed {listed : Array Bool} {i : Nat} (hi : i < listed.size) : (fun j => (listed.setIfInBounds i true).getD j false) = upd (fun j => listed.getD j false) i := by
 funext j
 unfold upd
 by_cases hj : j = i
 ·subst hj; simp [hi]
 ·simp only [hj, if_false]
  exact getD_set_ne false (fun h => hj h.symm)

theorem draw_end (t : Tr P tab rec ops ms S f0 h0 top) {listed : Array Bool} (hs : listed.size = ops.size) (hr : Region.ready .any ops listed = []) : ∀ j, j < ops.size → listed.getD j false = true := by
 intro j
 induction j using Nat.strongRecOn with
 | ind j ih =>
  intro hj
  cases hl : listed.getD j false with
  | true => rfl
  | false =>
   obtain ⟨o, ho⟩ := at_op hj
   have : j ∈ Region.ready .any ops listed := mem_ready.2 ⟨getD_true (by omega) hl, o, ho, fun e he hb => by
    have := t.fore.edge j o ho e he hb
    exact ih e.on this (by omega)⟩
   rw [hr] at this; cases this

theorem draw_any (t : Tr P tab rec ops ms S f0 h0 top) (ht : TabOk P tab) (hrec : RecOk P rec) {r : Option Nat} {n : Nat} {Q : Exit → Act → World → Prop}
  (hQ : ∀ L q σ hp a w, (∀ j, j < ops.size → L j = true) → Inv B ops S f0 h0 top σ0 w0 L q σ hp a w → Q .normal a w) :
  ∀ (fuel : Nat) (U : List Nat) (listed : Array Bool) (q : Nat) (σ : Sg) (hp : Nat → Option AO) (a : Act) (w : World), listed.size = ops.size → (∀ j, j < ops.size → listed.getD j false = false → j ∈ U) → U.length ≤ fuel →
   Inv B ops S f0 h0 top σ0 w0 (fun j => listed.getD j false) q σ hp a w → wpAnyIn (FW r) n P .any ops Q fuel listed a w
 | 0, U, listed, q, σ, hp, a, w, hs, hU, hlen, v => by
  have hnil : U = [] := List.eq_nil_of_length_eq_zero (by omega)
  have hall : ∀ j, j < ops.size → listed.getD j false = true := fun j hj => by
   cases hl : listed.getD j false with
   | true => rfl
   | false => have := hU j hj hl; rw [hnil] at this; cases this
  refine ⟨?_, hQ _ _ _ _ _ _ hall v⟩
  cases hr : Region.ready .any ops listed with
  | nil => rfl
  | cons j js =>
   have := (mem_ready (ops := ops) (j := j) (md := .any) (listed := listed)).1 (by rw [hr]; simp)
   obtain ⟨h1, h2⟩ := getD_false this.1
   rw [hall j (by omega)] at h2; cases h2
 | fuel + 1, U, listed, q, σ, hp, a, w, hs, hU, hlen, v => by
  refine ⟨fun hr => hQ _ _ _ _ _ _ (draw_end t hs hr) v, fun i hir => ?_⟩
  obtain ⟨h1, o, ho, he⟩ := mem_ready.1 hir
  obtain ⟨h2, h3⟩ := getD_false h1
  refine v.op t ht hrec ho h3 (fun e h4 h5 => he e h4 h5) fun a' w' q' σ' hp' v' => ?_
  rw [← upd_listed h2] at v'
  refine draw_any t ht hrec hQ fuel (U.erase i) _ q' σ' hp' a' w' (by simp [hs]) (fun j hj hl => ?_) ?_ v'
  ·have h6 := congrFun (upd_listed h2) j
   rw [h6] at hl
   unfold upd at hl
   split at hl
   ·cases hl
   ·rename_i hji
    exact (List.mem_erase_of_ne hji).2 (hU j hj hl)
  ·have h7 := hU i (by omega) h3
   have h8 := List.length_pos_of_mem h7
   rw [List.length_erase_of_mem h7]
   omega
end

section
variable {B : Nat} {P : Program} {σ : Sg} {h : H} {w : World} {tab : Tab} {rec : Code → F → H → Option R}

theorem drawA_sound (ht : TabOk P tab) (hrec : RecOk P rec) (hm : P.follows .mixedOrders = true) {r : Option Nat} {n : Nat} {id : Nat} {ops : Array Oper} {a : Act} {f f' : F} {h' : H} (hf : FR σ f a r) (hr : HR B σ h.heap.get h.next w) (hx : drawA P tab rec ops f h = some (f', h')) {Q : Exit → Act → World → Prop}
  (hQ : ∀ a' σ' w', FR σ' f' a' r → Step B σ h.heap.get h.next w σ' h'.heap.get h'.next w' → Q .normal a' w') : (Code.region id ops true).wpIn (FW r) n P Q a w := by
 unfold drawA at hx
 cases hok : drawOk ops with
 | false => rw [hok] at hx; cases hx
 | true =>
  rw [hok] at hx
  simp only [cond_true] at hx
  split at hx
  ·rename_i d hgo
   cases hnid : Nat.ble d.nid (h.next + allocs P ops.toList) with
   | false => rw [hnid] at hx; cases hx
   | true =>
    rw [hnid] at hx
    simp only [cond_true] at hx
    split at hx
    ·rename_i h1 hall
     simp only [Option.some.injEq, Prod.mk.injEq] at hx
     obtain ⟨rfl, rfl⟩ := hx
     obtain ⟨S, e1, e2, e3⟩ := drawGo_tr _ _ _ _ _ hgo
     rw [Nat.zero_add, Array.length_toList] at e2
     have t : Tr P tab rec ops (fun i => (masksA [] ops.toList).getD i 0) S f h (allocs P ops.toList) := by
      refine ⟨drawOk_fore hok, e1, fun i o ho => ?_, by rw [e2]; exact ble_of hnid⟩
      have := e3 i o (by simpa using ho)
      simpa using this
     refine wpIn_region_any hm ?_
     have hstart : Step B σ h.heap.get h.next { w with drawn := w.drawn + 1 } σ h.heap.get (S 0).h.next { w with drawn := w.drawn + 1 } := by
      have h1 := hr.drewN (w.drawn + 1)
      have h2 := Step.refl h1
      have hn : (S 0).h.next = h.next + allocs P ops.toList := by rw [t.start]
      refine ⟨h2.os, h2.tape, h2.output, h2.size, h2.old, h2.img, h2.keep, h2.keepN, h2.keepS, by omega, ⟨h1.live, h1.inj, fun k hk => h1.fresh k (by omega), h1.base, h1.glob⟩⟩
     have hheap : (S 0).h.heap = h.heap := by rw [t.start]
     have v0 : Inv B ops S f h (allocs P ops.toList) σ { w with drawn := w.drawn + 1 } (fun j => (Array.replicate ops.size false).getD j false) 0 σ h.heap.get a { w with drawn := w.drawn + 1 } := by
      have hL : ∀ j, (Array.replicate ops.size false).getD j false = false := fun j => by
       simp only [Array.getD_eq_getD_getElem?, Array.getElem?_replicate]
       split <;> rfl
      refine ⟨fun i o hl => (by rw [hL] at hl; cases hl), Nat.zero_le _, fun j hj _ => by rw [hL]; simp, fun k o hk => by rw [hheap] at hk; exact hk, fun p _ hl => (by rw [hL] at hl; cases hl), fun p hp _ => ?_, hstart, by rw [t.start]; exact Nat.le_refl _, fun k o hk => ⟨o, by rw [hheap]; exact hk⟩, hf.size, fun x => ?_, hf.ds⟩
      ·have := (t.made_lt ops.size (Nat.le_refl _) hp).2.1
       exact ⟨(hr.fresh _ this).2, (hr.fresh _ this).1⟩
      ·have := t.fr_eq (L := fun j => (Array.replicate ops.size false).getD j false) (i := 0) (x := x) (Nat.zero_le _) (fun j _ _ => by rw [hL]; simp) ops.size (Nat.le_refl _)
       rw [this, show min ops.size 0 = 0 by omega, t.start]
       exact hf.slot x
     refine draw_any t ht hrec (fun L q σ' hp a' w' hL v => ?_) ops.size (List.range ops.size) _ 0 σ h.heap.get a _ (by simp) (fun j hj _ => List.mem_range.2 hj) (by simp) v0
     have hq := v.qle
     have hqh : (S q).h = d.h := by
      have := t.h_same (n := q) (ops.size - q) (by omega) fun j h1 h2 hwj => by
       have := (v.cut j (by omega) hwj).1 (hL j (by omega))
       omega
      rw [show q + (ops.size - q) = ops.size by omega, e2] at this
      exact this.symm
     obtain ⟨g1, g2, g3⟩ := activateAll_inv _ _ _ hall
     have hsub : ∀ k o, h1.heap.get k = some o → hp k = some o := fun k o hk => by
      rcases g3 k o hk with x1 | ⟨x1, p, x2, x3, x4⟩
      ·exact v.sub k o (by rw [hqh]; exact x1)
      ·rw [← e2] at x2
       rcases v.has p x2 (hL _ (t.made_lt _ (Nat.le_refl _) x2).1) with y | ⟨o', y⟩
       ·rw [← x3, ← x4]; exact y
       ·rw [x3, hqh, x1] at y; cases y
     have hst := v.st
     rw [hqh, ← g1] at hst
     have hfin := hst.less hsub fun k o hk => by
      obtain ⟨o', x⟩ := v.keepS k o hk
      exact ⟨o', g2 _ _ (by rw [← hqh]; exact x)⟩
     have hle := hst.le (hr.drewN (w.drawn + 1))
     obtain ⟨b1, b2, b3⟩ := t.same ops.size (Nat.le_refl _)
     rw [e2] at b1 b2 b3
     refine hQ a' σ' w' ⟨by rw [b1]; exact v.size, fun x => ?_, by rw [b2]; exact v.ds.mono hle, by rw [b3]; exact hf.rd.mono hle⟩ ?_
     ·have := t.fr_eq (L := L) (i := ops.size) (x := x) (Nat.le_refl _) (fun j hj _ => ⟨fun _ => hj, fun _ => hL j hj⟩) ops.size (Nat.le_refl _)
      rw [Nat.min_self, e2] at this
      rw [← this]
      exact v.slot x
     ·exact ⟨hfin.os, hfin.tape, hfin.output, hfin.size, hfin.old, hfin.img, hfin.keep, hfin.keepN, hfin.keepS, hfin.nxle, hfin.hr⟩
    ·cases hx
  ·cases hx
end
end Go.Proofs.YtflnpcgnenhogaaGreatDoor.ev

namespace Go.Proofs.YtflnpcgnenhogaaGreatDoor.ev
open Go Go.RowKit

section
variable {B : Nat} {P : Program} {σ : Sg} {h : H} {w : World} {tab : Tab}

theorem Post.after {σ1 : Sg} {h1 : H} {w1 : World} {r : Option Nat} {x : X} {f' : F} {h' : H} {e : Exit} {a : Act} {w' : World} (st : Step B σ h.heap.get h.next w σ1 h1.heap.get h1.next w1) (p : Post B σ1 h1 w1 r x f' h' e a w') : Post B σ h w r x f' h' e a w' := by
 obtain ⟨p1, σ', p2, p3⟩ := p
 exact ⟨p1, σ', p2, st.trans p3⟩

theorem loopA_sound {b : Code} {r : Option Nat} {k : Nat} : ∀ (n : Nat), (∀ m, m < n → RecOk P (codeA P tab m)) → ∀ {σ : Sg} {f : F} {h : H} {a : Act} {w : World} {x : X} {f' : F} {h' : H}, codeA P tab n (.loop b) f h = some ⟨x, f', h'⟩ → FR σ f a r → HR B σ h.heap.get h.next w →
  ∀ {Q : Exit → Act → World → Prop}, (∀ e a w', Post B σ h w r x f' h' e a w' → Q e a w') → Code.roundsIn (FW r) k P b Q n a w
 | 0, _, σ, f, h, a, w, x, f', h', hx, _, _, _, _ => by simp [codeA] at hx
 | n + 1, ih, σ, f, h, a, w, x, f', h', hx, hf, hr, Q, hQ => by
  rw [roundsIn_succ]
  simp only [codeA] at hx
  cases hb : codeA P tab n b f h with
  | none => rw [hb] at hx; cases hx
  | some R =>
   obtain ⟨x1, f1, h1⟩ := R
   rw [hb] at hx
   have hw := ih n (by omega) b f h x1 f1 h1 hb B σ a w r k hf hr
   cases x1 with
   | normal =>
    refine wpIn_mono hw ?_
    rintro e a1 w1 ⟨hxr, σ1, hf1, hst⟩
    have he : e = .normal := hxr
    subst he
    exact loopA_sound n (fun m hm => ih m (by omega)) hx hf1 hst.hr fun e a w' p => hQ e a w' (p.after hst)
   | exit id =>
    injection hx with hx; injection hx with e1 e2 e3; subst e1; subst e2; subst e3
    refine wpIn_mono hw ?_
    intro e a1 w1 p
    have he : e = .exit id := p.1
    subst he
    exact hQ _ _ _ p
   | ret =>
    injection hx with hx; injection hx with e1 e2 e3; subst e1; subst e2; subst e3
    refine wpIn_mono hw ?_
    intro e a1 w1 p
    have he : e = .ret := p.1
    subst he
    exact hQ _ _ _ p

theorem callA_fn (ht : TabOk P tab) {rec : Code → F → H → Option R} {g : FuncId} {args : List Value} {v : Value} {h' : H} (hc : callA P tab rec g args h = some (v, h')) : ∃ x c, tab g = some x ∧ x.fn.body = some c := by
 unfold callA at hc
 split at hc
 ·rename_i fn hfn
  split at hc
  ·rename_i r hans
   split at hans
   ·rename_i t ht'
    obtain ⟨c, hb⟩ := ((ht g fn hfn).2.2 t ht').2
    exact ⟨fn, c, hfn, hb⟩
   ·cases hans
  ·split at hc
   ·rename_i c hb
    exact ⟨fn, c, hfn, hb⟩
   ·cases hc
 ·cases hc

/-- behind the record: the function is called; what its rounds have left is done -/
theorem rangeA_sound {n : Nat} (ht : TabOk P tab) (hrec : RecOk P (codeA P tab n)) {g : Operand} {ps : Array Tmp} {assign body : Code} {r : Option Nat} {m : Nat} {f f1 : F} {a : Act} {i : FuncId} {first captured : Array Value} {k b κ db : Nat} {h2 : H} {w2 : World} {σ2 : Sg} {x : X} {f' : F} {h' : H} {mark : List Deferred}
    {Q : Exit → Act → World → Prop} (hg : VR σ2 (.func (.func i) first captured) (a.eval g)) (hr2 : HR B σ2 h2.heap.get h2.next w2) (_ : h2.heap.get k = some (.loop .ready none ⟨f.sz, f.t, [], none⟩ ps.toList assign body db)) (hs2 : σ2 k = some (b, κ))
    (hf1 : FR σ2 f1 { a with defers := mark ++ a.defers } r)
    (hx : (match callA P tab (codeA P tab n) i (first.toList ++ .func (.yield k) #[] #[] :: captured.toList) h2 with
          | some (_, h3) => (match h3.heap.get k with
            | some (.loop st pd f' ps' aas' bd' db') => (match st with
              | .busy => none
              | _ => (match h3.set k (.loop .exhausted pd f' ps' aas' bd' db') with
                | some h4 =>
                  (match pd with
                  | none => some ⟨.normal, f1, h4⟩
                  | some c => codeA P tab n c f1 h4)
                | none => none))
            | _ => none)
          | none => none) = some (⟨x, f', h'⟩ : R))
    (hQ : ∀ e a w', Post B σ2 h2 w2 r x f' h' e a w' → Q e a w') :
    ∃ (d : Deferred) (args : Array Value), (resolve a.eval (rangeCall g b) 0).run P w2 = .ok d w2 ∧ (invoke d.target d.args).run P w2 = .ok (.enter i args) w2 ∧
      CallsIn (FW r) (m - 1) P i args w2 (rangePost (FW r) m P b Q { a with defers := mark ++ a.defers }) := by
  obtain ⟨ds, ds', e1, e2, e3⟩ := hg.func_inv rfl
  have hy : VR σ2 (.func (.yield k) #[] #[]) (.func (.yield b) #[] #[]) := .yield hs2
  cases hc : callA P tab (codeA P tab n) i (first.toList ++ .func (.yield k) #[] #[] :: captured.toList) h2 with
  | none => rw [hc] at hx; cases hx
  | some vh =>
    obtain ⟨v, h3⟩ := vh
    rw [hc] at hx
    simp only at hx
    obtain ⟨fn, c, hfn, hb⟩ := callA_fn ht hc
    have hl : LR σ2 (first.toList ++ .func (.yield k) #[] #[] :: captured.toList) (ds.toList ++ .func (.yield b) #[] #[] :: ds'.toList) := e2.append (LR.cons hy e3)
    refine ⟨{ target := .fn (.func i) ds', args := ds ++ #[.func (.yield b) #[] #[]] }, (ds.toList ++ .func (.yield b) #[] #[] :: ds'.toList).toArray, ?_, ?_, ?_⟩
    · simp only [resolve, e1]
      simp [go_sem, Deferred.ofValue]
    · have : ds ++ #[Value.func (.yield b) #[] #[]] ++ ds' = (ds.toList ++ .func (.yield b) #[] #[] :: ds'.toList).toArray := by apply Array.ext'; simp
      simp only [invoke]
      rw [this]
      exact callee_run ht hfn hb _
    · refine (callsIn_any (callA_sound ht hrec hr2 hl hc m)).mono ?_
      rintro e w3 ⟨u, σ3, rfl, d1, hst3⟩
      split at hx
      · rename_i st pd fl ps' aas' bd' db' hk3
        have hle3 := hst3.le hr2
        have hs3 := hle3 _ _ hs2
        obtain ⟨l, l1, l2, l3, l4, l5, l6, l7, l8, l9⟩ := hst3.hr.loopAt hk3 hs3
        have key : ∀ h4, st ≠ .busy → h3.set k (.loop .exhausted pd fl ps' aas' bd' db') = some h4 → (match pd with
                  | none => some (⟨.normal, f1, h4⟩ : R)
                  | some c => codeA P tab n c f1 h4) = some ⟨x, f', h'⟩ → rangePost (FW r) m P b Q { a with defers := mark ++ a.defers } (.returned u) w3 := fun h4 hbusy hset hx => by
          have hst4 := hst3.hr.putObj (o2 := .loop .exhausted pd fl ps' aas' bd' db') (ob := .loop { l with state := .exhausted }) hk3 rfl rfl hs3 ⟨_, rfl, rfl, l3, l4, l5, l6, l7, l8, l9⟩ hset
          have hall := hst3.trans hst4
          have fin : ∀ jump, jump = pd → (match jump with
              | none => Q .normal { a with defers := mark ++ a.defers } (w3.putObj b (.loop { l with state := .exhausted }))
              | some c => c.wpIn (FW r) m P Q { a with defers := mark ++ a.defers } (w3.putObj b (.loop { l with state := .exhausted }))) := fun jump hj => by
            rw [← hj] at hx
            cases jump with
            | none =>
              simp only [Option.some.injEq, R.mk.injEq] at hx
              obtain ⟨rfl, rfl, rfl⟩ := hx
              exact hQ _ _ _ ⟨rfl, σ3, hf1.mono hle3, hall⟩
            | some c =>
              simp only at hx
              exact wpIn_mono (hrec c f1 h4 x f' h' hx B σ3 _ _ r m (hf1.mono hle3) hall.hr) fun e a w' p => hQ e a w' (p.after hall)
          exact ⟨l.pending, _, run_endLoop l1 (by rw [l2]; exact hbusy), fin _ l3⟩
        cases st with
        | busy => cases hx
        | ready =>
          simp only at hx
          cases hset : h3.set k (.loop .exhausted pd fl ps' aas' bd' db') with
          | none => rw [hset] at hx; cases hx
          | some h4 => rw [hset] at hx; exact key h4 (by simp) hset hx
        | done =>
          simp only at hx
          cases hset : h3.set k (.loop .exhausted pd fl ps' aas' bd' db') with
          | none => rw [hset] at hx; cases hx
          | some h4 => rw [hset] at hx; exact key h4 (by simp) hset hx
        | exhausted =>
          simp only at hx
          cases hset : h3.set k (.loop .exhausted pd fl ps' aas' bd' db') with
          | none => rw [hset] at hx; cases hx
          | some h4 => rw [hset] at hx; exact key h4 (by simp) hset hx
      · cases hx

theorem stepR_scope {b : Frame} {a : Act} {k : List Item} {cs : List Frame} {w : World} {c : Code} : step P (lone (b.atR a (.code (.scope c) :: k)) cs w) = .next (lone (b.atR a (.code c :: .inScope c :: k)) cs w) :=
 step_lone_go (by simp [stepG, stepG.exec, Frame.atR])
theorem stepR_inScope {b : Frame} {a : Act} {k : List Item} {cs : List Frame} {w : World} {c : Code} : step P (lone (b.atR a (.inScope c :: k)) cs w) = .next (lone (b.atR a k) cs w) :=
 step_lone_go (by simp [stepG, stepG.exec, Frame.atR])
theorem wpIn_scope {F : Fence} {n : Nat} {Q : Exit → Act → World → Prop} {a : Act} {w : World} {c : Code} (h : c.wpIn F n P (Exit.noGoto Q) a w) : (Code.scope c).wpIn F n P Q a w := by
 intro b k cs hro hb hr
 have h0 : (lone (b.atR a (.code (.scope c) :: k)) cs w).fenced P F := fenced_calm hb hr rfl
 obtain ⟨e, a₁, w₁, hq, harr⟩ := h b (.inScope c :: k) cs hro hb hr
 cases e with
 | normal => exact ⟨.normal, a₁, w₁, hq, .head h0 stepR_scope (StepsIn.trans harr (.one (fenced_calm hb hr rfl) stepR_inScope))⟩
 | exit id' =>
  have hx : exitTo id' (.inScope c :: k) = exitTo id' k := by simp [exitTo]
  exact ⟨.exit id', a₁, w₁, hq, fun k' hk => .head h0 stepR_scope (harr.1 k' (by rw [hx]; exact hk)),
   fun hr' hk => let ⟨k₁, h1, h2⟩ := harr.2 hr' (by rw [hx]; exact hk); ⟨k₁, h1, .head h0 stepR_scope h2⟩⟩
 | goto l => exact hq.elim
 | ret => exact ⟨_, a₁, w₁, hq, .of_steps (.one h0 stepR_scope) harr⟩
 | panic ch => exact ⟨_, a₁, w₁, hq, .of_steps (.one h0 stepR_scope) harr⟩
 | outgrown => exact ⟨_, a₁, w₁, hq, .of_steps (.one h0 stepR_scope) harr⟩

theorem codeA_sound (ht : TabOk P tab) (hm : P.follows .mixedOrders = true) : ∀ n, RecOk P (codeA P tab n) := by
 intro n
 induction n using Nat.strongRecOn with
 | ind n ih =>
  cases n with
  | zero => intro c f h x f' h' hx; simp [codeA] at hx
  | succ n =>
   intro c f h x f' h' hx B σ a w r k hf hr
   have hrec := ih n (by omega)
   cases c with
   | skip =>
    simp only [codeA, Option.some.injEq, R.mk.injEq] at hx
    obtain ⟨rfl, rfl, rfl⟩ := hx
    exact wpIn_skip ⟨rfl, σ, hf, Step.refl hr⟩
   | label l =>
    simp only [codeA, Option.some.injEq, R.mk.injEq] at hx
    obtain ⟨rfl, rfl, rfl⟩ := hx
    exact wpIn_label ⟨rfl, σ, hf, Step.refl hr⟩
   | ret =>
    simp only [codeA, Option.some.injEq, R.mk.injEq] at hx
    obtain ⟨rfl, rfl, rfl⟩ := hx
    exact wpIn_ret ⟨rfl, σ, hf, Step.refl hr⟩
   | exit id =>
    simp only [codeA, Option.some.injEq, R.mk.injEq] at hx
    obtain ⟨rfl, rfl, rfl⟩ := hx
    exact wpIn_exit ⟨rfl, σ, hf, Step.refl hr⟩
   | seq c1 c2 =>
    simp only [codeA] at hx
    refine wpIn_seq ?_
    cases hb : codeA P tab n c1 f h with
    | none => rw [hb] at hx; cases hx
    | some R1 =>
     obtain ⟨x1, f1, h1⟩ := R1
     rw [hb] at hx
     have hw := hrec c1 f h x1 f1 h1 hb B σ a w r k hf hr
     cases x1 with
     | normal =>
      refine wpIn_mono hw ?_
      rintro e a1 w1 ⟨hxr, σ1, hf1, hst⟩
      have he : e = .normal := hxr
      subst he
      exact wpIn_mono (hrec c2 f1 h1 x f' h' hx B σ1 a1 w1 r k hf1 hst.hr) fun e a w' p => p.after hst
     | exit id =>
      injection hx with hx; injection hx with e1 e2 e3; subst e1; subst e2; subst e3
      refine wpIn_mono hw fun e a1 w1 p => ?_
      have he : e = .exit id := p.1
      subst he
      exact p
     | ret =>
      injection hx with hx; injection hx with e1 e2 e3; subst e1; subst e2; subst e3
      refine wpIn_mono hw fun e a1 w1 p => ?_
      have he : e = .ret := p.1
      subst he
      exact p
   | cond y c1 c2 =>
    simp only [codeA] at hx
    have hvo := hf.vo hr.glob y
    split at hx
    ·rename_i hy
     have := (hvo _ hy).atom_inv rfl
     exact wpIn_cond_true this (hrec c1 f h x f' h' hx B σ a w r k hf hr)
    ·rename_i hy
     have := (hvo _ hy).atom_inv rfl
     exact wpIn_cond_false this (hrec c2 f h x f' h' hx B σ a w r k hf hr)
    ·cases hx
   | block id c1 =>
    simp only [codeA] at hx
    refine wpIn_block ?_
    cases hb : codeA P tab n c1 f h with
    | none => rw [hb] at hx; cases hx
    | some R1 =>
     obtain ⟨x1, f1, h1⟩ := R1
     rw [hb] at hx
     have hw := hrec c1 f h x1 f1 h1 hb B σ a w r k hf hr
     cases x1 with
     | normal =>
      injection hx with hx; injection hx with e1 e2 e3; subst e1; subst e2; subst e3
      refine wpIn_mono hw fun e a1 w1 p => ?_
      have he : e = .normal := p.1
      subst he
      exact p
     | exit i =>
      simp only at hx
      cases hi : Nat.beq i id with
      | true =>
       rw [hi] at hx
       simp only [cond_true, Option.some.injEq, R.mk.injEq] at hx
       obtain ⟨rfl, rfl, rfl⟩ := hx
       refine wpIn_mono hw fun e a1 w1 p => ?_
       obtain ⟨he, p2⟩ := p
       have he : e = .exit i := he
       subst he
       show (if i = id then _ else _)
       rw [if_pos (beq_of hi)]
       exact ⟨rfl, p2⟩
      | false =>
       rw [hi] at hx
       simp only [cond_false, Option.some.injEq, R.mk.injEq] at hx
       obtain ⟨rfl, rfl, rfl⟩ := hx
       refine wpIn_mono hw fun e a1 w1 p => ?_
       obtain ⟨he, p2⟩ := p
       have he : e = .exit i := he
       subst he
       show (if i = id then _ else _)
       rw [if_neg (nbeq_of hi)]
       exact ⟨rfl, p2⟩
     | ret =>
      injection hx with hx; injection hx with e1 e2 e3; subst e1; subst e2; subst e3
      refine wpIn_mono hw fun e a1 w1 p => ?_
      have he : e = .ret := p.1
      subst he
      exact p
   | loop c1 => exact wpIn_loop_rounds (n + 1) (loopA_sound (n + 1) ih hx hf hr fun e a w' p => p)
   | region id ops dr =>
    cases dr with
    | false =>
     simp only [codeA] at hx
     split at hx
     ·rename_i f1 h1 hops
      simp only [Option.some.injEq, R.mk.injEq] at hx
      obtain ⟨rfl, rfl, rfl⟩ := hx
      refine wpIn_region ?_
      have := opsA_sound (Q := Post B σ h w r .normal f1 h1) (n := k) ht hrec ops.toList 0 σ f h a w (by simp) (by simp) hf hr hops fun a' σ' w' hf' hst => ⟨rfl, σ', hf', hst⟩
      rw [List.range_eq_range']
      simpa using this
     ·cases hx
    | true =>
     simp only [codeA] at hx
     split at hx
     ·rename_i f1 h1 hops
      simp only [Option.some.injEq, R.mk.injEq] at hx
      obtain ⟨rfl, rfl, rfl⟩ := hx
      exact drawA_sound ht hrec hm hf hr hops fun a' σ' w' hf' hst => ⟨rfl, σ', hf', hst⟩
     ·cases hx
   | rangeFunc g ps assign body =>
    simp only [codeA] at hx
    split at hx
    ·rename_i i first captured hgv
     have hgr := hf.vo hr.glob g _ hgv
     cases hrd : f.rd with
     | none =>
      rw [hrd] at hx
      simp only at hx
      have hr0 : r = none := by have := hf.rd; rw [hrd] at this; exact this
      subst hr0
      cases hn1 : h.new (.defd false) with
      | none => rw [hn1] at hx; cases hx
      | some dh =>
       obtain ⟨d, h1⟩ := dh
       rw [hn1] at hx
       simp only at hx
       cases hn2 : h1.new (.loop .ready none ⟨f.sz, f.t, [], none⟩ ps.toList assign body d) with
       | none => rw [hn2] at hx; cases hx
       | some kh =>
        obtain ⟨kk, h2⟩ := kh
        rw [hn2] at hx
        simp only at hx
        obtain ⟨rfl, a2, a3, a4⟩ := H.new_inv hn1
        obtain ⟨rfl, b2, b3, b4⟩ := H.new_inv hn2
        refine wpIn_rangeFunc fun fn _ => ?_
        have st1 := hr.newB (w' := w.alloc (.deferred (some []))) (κ := 0) (ob := .deferred (some [])) (o := .defd false) rfl rfl rfl rfl rfl a3 a4
        rw [← a2] at st1
        have hle1 := st1.le hr
        have st2 := st1.hr.newB (w' := (w.alloc (.deferred (some []))).alloc (.loop { state := .ready, pending := none, fn, tmps := a.tmps, params := ps, assign, body, defers := w.heap.size })) (κ := 0)
         (ob := .loop { state := .ready, pending := none, fn, tmps := a.tmps, params := ps, assign, body, defers := w.heap.size }) (o := .loop .ready none ⟨f.sz, f.t, [], none⟩ ps.toList assign body h.next) rfl rfl rfl rfl
         (by
          have hle2 := Sg.set_le (σ := σ.set h.next w.heap.size 0) (k := h1.next) (w.alloc (.deferred (some []))).heap.size 0 (st1.hr.fresh _ (Nat.le_refl _)).1
          exact ⟨_, rfl, rfl, rfl, rfl, rfl, rfl, ⟨0, hle2 _ _ (Sg.set_same _ _ _ _)⟩, hf.size, fun j => ((hf.slot j).mono hle1).mono hle2⟩) b3 b4
        rw [← b2] at st2
        have hst := st1.trans st2
        have hle := hst.le hr
        have hdb : (σ.set h.next w.heap.size 0).set h1.next (w.alloc (.deferred (some []))).heap.size 0 h.next = some (w.heap.size, 0) := by
         rw [Sg.set_other _ _ _ (by omega), Sg.set_same]
        have hszw : (w.alloc (.deferred (some []))).heap.size = w.heap.size + 1 := by simp
        obtain ⟨dd, args, c1, c2, c3⟩ := rangeA_sound (m := k) (mark := [{ target := .collected w.heap.size, args := #[] }]) (f1 := ⟨f.sz, f.t, .mark h.next :: f.ds, f.rd⟩) (r := none) (a := a) (b := w.heap.size + 1) (κ := 0) (Q := Post B σ h w none x f' h') ht hrec (hgr.mono hle) hst.hr b3 (by rw [Sg.set_same, hszw])
         ⟨hf.size, fun j => (hf.slot j).mono hle, ⟨w.heap.size, 0, a.defers, rfl, hdb, hf.ds.mono hle⟩, hf.rd.mono hle⟩ (by rw [hrd]; exact hx) fun e a w' p => p.after hst
        exact ⟨_, _, _, dd, _, i, args, _, run_enterLoop_outer _ _ _ _ _, c1, fun _ _ => trivial, c2, FW_depth none k, c3⟩
     | some r0 =>
      rw [hrd] at hx
      simp only at hx
      cases hl0 : h.heap.get r0 with
      | none => rw [hl0] at hx; cases hx
      | some o0 =>
       rw [hl0] at hx
       cases o0 with
       | loop st0 pd0 f00 ps0 as0 bd0 d =>
        simp only at hx
        cases hn2 : h.new (.loop .ready none ⟨f.sz, f.t, [], none⟩ ps.toList assign body d) with
        | none => rw [hn2] at hx; cases hx
        | some kh =>
         obtain ⟨kk, h2⟩ := kh
         rw [hn2] at hx
         simp only at hx
         obtain ⟨rfl, b2, b3, b4⟩ := H.new_inv hn2
         have hrr := hf.rd
         rw [hrd] at hrr
         obtain ⟨b0, κ0, hr0, hs0⟩ := hrr
         subst hr0
         obtain ⟨l, l1, l2, l3, l4, l5, l6, ⟨κd, l7⟩, l8, l9⟩ := hr.loopAt hl0 hs0
         refine wpIn_rangeFunc fun fn _ => ?_
         have st2 := hr.newB (w' := w.alloc (.loop { state := .ready, pending := none, fn, tmps := a.tmps, params := ps, assign, body, defers := l.defers })) (κ := 0)
          (ob := .loop { state := .ready, pending := none, fn, tmps := a.tmps, params := ps, assign, body, defers := l.defers }) (o := .loop .ready none ⟨f.sz, f.t, [], none⟩ ps.toList assign body d) rfl rfl rfl rfl
          (by
           have hle2 := Sg.set_le (σ := σ) (k := h.next) w.heap.size 0 (hr.fresh _ (Nat.le_refl _)).1
           exact ⟨_, rfl, rfl, rfl, rfl, rfl, rfl, ⟨κd, hle2 _ _ l7⟩, hf.size, fun j => (hf.slot j).mono hle2⟩) b3 b4
         rw [← b2] at st2
         have hle := st2.le hr
         obtain ⟨dd, args, c1, c2, c3⟩ := rangeA_sound (m := k) (mark := []) (f1 := f) (r := some b0) (a := a) (b := w.heap.size) (κ := 0) (Q := Post B σ h w (some b0) x f' h') ht hrec (hgr.mono hle) st2.hr b3 (by rw [Sg.set_same])
          (hf.mono hle) hx fun e a w' p => p.after st2
         exact ⟨_, _, _, dd, _, i, args, _, run_enterLoop_inner l1 _ _ _ _ _, c1, fun _ _ => trivial, c2, FW_depth _ k, c3⟩
       | _ => cases hx
    ·cases hx
   | scope c1 =>
    simp only [codeA] at hx
    refine wpIn_scope (wpIn_mono (hrec c1 f h x f' h' hx B σ a w r k hf hr) fun e a1 w1 p => ?_)
    obtain ⟨p1, p2⟩ := p
    cases e with
    | goto l => cases x <;> cases p1
    | _ => exact ⟨p1, p2⟩
   | _ => simp [codeA] at hx
end
end Go.Proofs.YtflnpcgnenhogaaGreatDoor.ev

namespace Go.Proofs.YtflnpcgnenhogaaGreatDoor.ev
open Go Go.RowKit
noncomputable section

/-! ### the same run with small bodies: what the kernel reckons with -/
/-- an operation, a list of them, code: told apart once (the kernel keeps what they come to), then run -/
structure SO where
 run : (Code → F → H → Option R) → F → H → Option (F × H)
structure SG where
 run : F → Bool
structure SC1 where
 run : (Code → F → H → Option R) → F → H → Option R
def putQ (x : Option Value) (o : Oper) (f : F) (h : H) : Option (F × H) := @Option.rec Value (fun _ => Option (F × H)) none (fun v => @Option.rec F (fun _ => Option (F × H)) none (fun f' => some (f', h)) (F.put f o.dst v)) x
def op1Q (P : Program) (o : Oper) (f : F) (h : H) : Option (F × H) := match xa P o f.get h.next with
  | some (v, r) => (match h.new r with
   | some (_, h') => (match f.put o.dst v with | some f' => some (f', h') | none => none)
   | none => none)
  | none => none
def op2Q (P : Program) (tab : Tab) (rec : Code → F → H → Option R) (o : Oper) (f : F) (h : H) : Option (F × H) := match xw P tab o f.get h with
  | some (.val v h') => (match f.put o.dst v with | some f' => some (f', h') | none => none)
  | some (.skip h') => (match f.put o.dst undef with | some f' => some (f', h') | none => none)
  | some (.call g args h1) => (match callA P tab rec g args h1 with
   | some (v, h') => (match f.put o.dst v with | some f' => some (f', h') | none => none)
   | none => none)
  | some (.defer g args cap h') => (match f.rd with
   | none => (match (F.mk f.sz f.t (.call g args cap :: f.ds) none).put o.dst undef with | some f' => some (f', h') | none => none)
   | some _ => none)
  | some (.round k args h1) => (match roundA rec k args h1 with
   | some (v, h') => (match f.put o.dst v with | some f' => some (f', h') | none => none)
   | none => none)
  | none => none
def stO (P : Program) (tab : Tab) (o : Oper) : SO :=
 @Nat.rec (fun _ => SO) ⟨fun _ f h => putQ ((stX P o.type o.op).run (F.get f) h) o f h⟩ (fun k _ => @Nat.rec (fun _ => SO) ⟨fun _ f h => op1Q P o f h⟩ (fun _ _ => ⟨fun rec f h => op2Q P tab rec o f h⟩) k) (kindOf P o.op)
theorem stO_eq (P : Program) (tab : Tab) (rec : Code → F → H → Option R) (o : Oper) (f : F) (h : H) : (stO P tab o).run rec f h = opA P tab rec o f h := by
 unfold stO opA
 generalize kindOf P o.op = k
 match k with
 | 0 =>
  show putQ (xq P o f.get h) o f h = _
  unfold putQ
  simp only
  cases xq P o f.get h with
  | none => rfl
  | some v => simp only; cases f.put o.dst v <;> rfl
 | 1 => rfl
 | _ + 2 => rfl
def gOf (f : F) (d : Tmp) (want : Bool) : Bool := match F.get f d with | .bool b => b == want | _ => false
def stG (ops : Array Oper) (o : Oper) : SG :=
 match o.guard with
 | none => ⟨fun _ => true⟩
 | some (j, want) => match ops[j]? with
  | some p => (match p.dst with
   | some d => ⟨fun f => gOf f d want⟩
   | none => ⟨fun _ => false⟩)
  | none => ⟨fun _ => false⟩
theorem stG_eq (ops : Array Oper) (o : Oper) (f : F) : (stG ops o).run f = wantedA ops o f.get := by
 unfold stG wantedA
 cases o.guard with
 | none => rfl
 | some jw =>
  obtain ⟨j, want⟩ := jw
  simp only
  cases ops[j]? with
  | none => rfl
  | some p =>
   simp only
   cases p.dst <;> rfl

def nextQ (x : Option (F × H)) (k : F → H → Option (F × H)) : Option (F × H) := @Option.rec (F × H) (fun _ => Option (F × H)) none (fun p => @Prod.rec F H (fun _ => Option (F × H)) (fun f h => k f h) p) x
def offQ (x : Option F) (k : F → H → Option (F × H)) (h : H) : Option (F × H) := @Option.rec F (fun _ => Option (F × H)) none (fun f => k f h) x
def stL (P : Program) (tab : Tab) (ops : Array Oper) (l : List Oper) : SO :=
 @List.rec Oper (fun _ => SO) ⟨fun _ f h => some (f, h)⟩
  (fun o _ ih => ⟨fun rec f h => @Bool.rec (fun _ => Option (F × H)) (offQ (F.put f o.dst undef) (ih.run rec) h) (nextQ ((stO P tab o).run rec f h) (ih.run rec)) ((stG ops o).run f)⟩) l
theorem stL_eq (P : Program) (tab : Tab) (rec : Code → F → H → Option R) (ops : Array Oper) : ∀ (l : List Oper) (f : F) (h : H), (stL P tab ops l).run rec f h = opsA P tab rec ops l f h
 | [], _, _ => rfl
 | o :: l, f, h => by
  show @Bool.rec (fun _ => Option (F × H)) (offQ (F.put f o.dst undef) ((stL P tab ops l).run rec) h) (nextQ ((stO P tab o).run rec f h) ((stL P tab ops l).run rec)) ((stG ops o).run f) = _
  rw [stO_eq, stG_eq]
  unfold opsA
  cases wantedA ops o f.get with
  | true =>
   simp only
   cases opA P tab rec o f h with
   | none => rfl
   | some p => obtain ⟨f1, h1⟩ := p; exact stL_eq P tab rec ops l f1 h1
  | false =>
   simp only
   cases f.put o.dst undef with
   | none => rfl
   | some f1 => exact stL_eq P tab rec ops l f1 h

def thenQ (x : Option R) (k : F → H → Option R) : Option R := @Option.rec R (fun _ => Option R) none (fun p => @R.rec (fun _ => Option R) (fun x f h => @X.rec (fun _ => Option R) (k f h) (fun i => some ⟨.exit i, f, h⟩) (some ⟨.ret, f, h⟩) x) p) x
def condQ (rec : Code → F → H → Option R) (x : Option Value) (a b : Code) (f : F) (h : H) : Option R := match x with
 | some (.bool true) => rec a f h
 | some (.bool false) => rec b f h
 | _ => none
def blockQ (x : Option R) (id : Nat) : Option R := match x with
      | some ⟨.exit i, f', h'⟩ => bif Nat.beq i id then some ⟨.normal, f', h'⟩ else some ⟨.exit i, f', h'⟩
      | r => r
def regQ (x : Option (F × H)) : Option R := @Option.rec (F × H) (fun _ => Option R) none (fun p => @Prod.rec F H (fun _ => Option R) (fun f h => some ⟨.normal, f, h⟩) p) x
def rfQ (P : Program) (tab : Tab) (rec : Code → F → H → Option R) (g : Operand) (ps : Array Tmp) (assign body : Code) (f : F) (h : H) : Option R := match opv f.get g with
      | some (.func (.func i) first captured) =>
        let l : Option (Nat × Option Nat × H) := match f.rd with
          | none => (match h.new (.defd false) with
            | some (d, h1) => (match h1.new (.loop .ready none ⟨f.sz, f.t, [], none⟩ ps.toList assign body d) with | some (k, h2) => some (k, some d, h2) | none => none)
            | none => none)
          | some r => (match h.heap.get r with
            | some (.loop _ _ _ _ _ _ d) => (match h.new (.loop .ready none ⟨f.sz, f.t, [], none⟩ ps.toList assign body d) with | some (k, h2) => some (k, none, h2) | none => none)
            | _ => none)
        match l with
        | some (k, md, h2) => (match callA P tab rec i (first.toList ++ .func (.yield k) #[] #[] :: captured.toList) h2 with
          | some (_, h3) => (match h3.heap.get k with
            | some (.loop st pd f' ps' aas' bd' db') => (match st with
              | .busy => none
              | _ => (match h3.set k (.loop .exhausted pd f' ps' aas' bd' db') with
                | some h4 =>
                  let f1 : F := match md with | some d => ⟨f.sz, f.t, .mark d :: f.ds, f.rd⟩ | none => f
                  (match pd with
                  | none => some ⟨.normal, f1, h4⟩
                  | some c => rec c f1 h4)
                | none => none))
            | _ => none)
          | none => none)
        | none => none
      | _ => none
def stC (P : Program) (tab : Tab) (c : Code) : SC1 :=
 match c with
 | .skip => ⟨fun _ f h => some ⟨.normal, f, h⟩⟩
 | .label _ => ⟨fun _ f h => some ⟨.normal, f, h⟩⟩
 | .ret => ⟨fun _ f h => some ⟨.ret, f, h⟩⟩
 | .exit id => ⟨fun _ f h => some ⟨.exit id, f, h⟩⟩
 | .seq a b => ⟨fun rec f h => thenQ (rec a f h) (rec b)⟩
 | .cond x a b => ⟨fun rec f h => condQ rec (opv (F.get f) x) a b f h⟩
 | .block id b => ⟨fun rec f h => blockQ (rec b f h) id⟩
 | .loop b => ⟨fun rec f h => thenQ (rec b f h) (rec (.loop b))⟩
 | .scope b => ⟨fun rec f h => rec b f h⟩
 | .region _ ops dr => @Bool.rec (fun _ => SC1) ⟨fun rec f h => regQ ((stL P tab ops ops.toList).run rec f h)⟩ ⟨fun rec f h => regQ (drawA P tab rec ops f h)⟩ dr
 | .rangeFunc g ps assign body => ⟨fun rec f h => rfQ P tab rec g ps assign body f h⟩
 | _ => ⟨fun _ _ _ => none⟩
def codeQ (P : Program) (tab : Tab) (n : Nat) : Code → F → H → Option R :=
 @Nat.rec (fun _ => Code → F → H → Option R) (fun _ _ _ => none) (fun _ rec c f h => (stC P tab c).run rec f h) n

theorem thenQ_eq (x : Option R) (k : F → H → Option R) : thenQ x k = match x with | some ⟨.normal, f', h'⟩ => k f' h' | r => r := by
 cases x with
 | none => rfl
 | some p => obtain ⟨x, f, h⟩ := p; cases x <;> rfl
theorem regQ_eq (x : Option (F × H)) : regQ x = match x with | some (f', h') => some ⟨.normal, f', h'⟩ | none => none := by
 cases x with
 | none => rfl
 | some p => rfl
theorem codeQ_eq (P : Program) (tab : Tab) : ∀ n, codeQ P tab n = codeA P tab n
 | 0 => by funext c f h; simp only [codeA]; rfl
 | n + 1 => by
  funext c f h
  show (stC P tab c).run (codeQ P tab n) f h = _
  rw [codeQ_eq P tab n]
  cases c with
  | seq a b => simp only [stC, codeA, thenQ_eq]; rfl
  | loop b => simp only [stC, codeA, thenQ_eq]; rfl
  | region i ops dr =>
   cases dr with
   | false => simp only [stC, codeA, regQ_eq, stL_eq]; rfl
   | true => simp only [stC, codeA, regQ_eq]; rfl
  | cond x a b => simp only [stC, codeA, condQ]; rfl
  | block id b => simp only [stC, codeA, blockQ]; rfl
  | rangeFunc g ps assign body => simp only [stC, codeA, rfQ]; rfl
  | _ => simp only [stC, codeA]
end
end Go.Proofs.YtflnpcgnenhogaaGreatDoor.ev

namespace Go.Proofs.YtflnpcgnenhogaaGreatDoor.ev
open Go Go.RowKit

def tabP (P : Program) : Tab := fun i => match P.funcs[i]? with | some fn => some ⟨fn, none⟩ | none => none
def namesOk (P : Program) : Bool := P.funcs.toList.all fun fn => !(fn.name == "runtime.NumGoroutine")
theorem names_at {P : Program} (h : namesOk P = true) {i : Nat} {fn : Func} (hi : P.funcs[i]? = some fn) : (fn.name == "runtime.NumGoroutine") = false := by
 have h1 := List.all_eq_true.1 h fn (by
  have : P.funcs.toList[i]? = some fn := by simpa using hi
  exact List.mem_of_getElem? this)
 simpa using h1
theorem tabP_ok {P : Program} (h : namesOk P = true) : TabOk P (tabP P) := by
 intro i x hi
 unfold tabP at hi
 split at hi
 ·rename_i fn hfn
  injection hi with hi; subst hi
  exact ⟨hfn, names_at h hfn, fun t ht => by cases ht⟩
 ·cases hi
def sg0 : Sg := fun i => if i < 1000 then some (i, 0) else none
theorem HR.start {h0 : H} {W : World} (hn : h0.next = 1000) (hG : ∀ k o, h0.heap.get k = some o → k < 1000 ∧ o.ro = true ∧ ∃ ob, W.heap[k]? = some ob ∧ ORel sg0 0 o ob) : HR W.heap.size sg0 h0.heap.get h0.next W := by
 refine ⟨fun k o h1 h2 => ?_, fun k k' o o' b κ κ' h1 h2 h3 h4 h5 h6 => ?_, fun k hk => ?_, Nat.le_refl _, fun i hi => if_pos hi⟩
 ·obtain ⟨a1, a2, ob, a3, a4⟩ := hG k o h1
  exact ⟨k, 0, ob, if_pos a1, a3, a4, fun h => by rw [a2] at h; cases h⟩
 ·obtain ⟨a1, _⟩ := hG k o h1
  obtain ⟨b1, _⟩ := hG k' o' h3
  unfold sg0 at h5 h6
  rw [if_pos a1] at h5
  rw [if_pos b1] at h6
  injection h5 with h5; injection h5 with h5 _
  injection h6 with h6; injection h6 with h6 _
  omega
 ·refine ⟨if_neg (by omega), ?_⟩
  cases he : h0.heap.get k with
  | none => rfl
  | some o => have := (hG k o he).1; omega

def isTrue : Option (Value × H) → Bool
 | some (.bool true, _) => true
 | _ => false
theorem isTrue_inv {r : Option (Value × H)} (h : isTrue r = true) : ∃ h', r = some (.bool true, h') := by
 unfold isTrue at h
 split at h
 ·exact ⟨_, rfl⟩
 ·cases h

/-! ### two package-level variables of two cells each, aas blocks 0 and 1 -/
def pairRow (a b : Value) (e : TypeId) : AO := .row 2 (.node (.node .leaf (some b) .leaf) (some a) .leaf) undef e none false
theorem pairRow_rel {a b : Value} {e : TypeId} {z : Nat × Nat} (ha : flatN 1 a = true) (hb : flatN 1 b = true) : ORel sg0 0 (pairRow a b e) (.cells #[a, b] e z) := by
 refine ⟨#[a, b], z, rfl, Nat.le_refl _, fun i hi => ?_, fun sz h => (by cases h), fun h => (by cases h), fun _ => rfl⟩
 match i, hi with
 | 0, _ => exact ⟨a, rfl, VR.same 1 _ ha⟩
 | 1, _ => exact ⟨b, rfl, VR.same 1 _ hb⟩
end Go.Proofs.YtflnpcgnenhogaaGreatDoor.ev

namespace Go.Proofs.YtflnpcgnenhogaaGreatDoor.ev
open Go Go.RowKit

/-! ### a closed call that is known -/
/-- the laid variables that the run knows: rows that are only read, at their numbers -/
def Laid (t : T AO) (W : World) : Prop := ∀ k o, t.get k = some o → k < 1000 ∧ o.ro = true ∧ ∃ ob, W.heap[k]? = some ob ∧ ORel sg0 0 o ob
theorem toldL {P : Program} {tab : Tab} (ht : TabOk P tab) (hm : P.follows .mixedOrders = true) {g : FuncId} {n : Nat} {t : T AO} {W : World} (hG : Laid t W)
  (hc : isTrue (callA P tab (codeQ P tab n) g [] ⟨t, 1000⟩) = true) : Calls P g #[] W fun e w' => e = .returned (.bool true) ∧ Below W.heap.size W w' := by
 rw [codeQ_eq] at hc
 obtain ⟨h', hc⟩ := isTrue_inv hc
 have hr := HR.start (h0 := ⟨t, 1000⟩) rfl hG
 have h1 := callA_sound ht (codeA_sound ht hm n) hr (us := []) LR.nil hc 0
 rw [FW_none] at h1
 refine (callsIn_wide.1 h1).mono ?_
 rintro e w' ⟨u, σ', rfl, hu, hst⟩
 exact ⟨by rw [hu.atom_inv rfl], hst.low hr⟩

/-- a tree of what a list tells -/
noncomputable def mkT {α : Type} : List (Nat × α) → T α
 | [] => .leaf
 | (k, o) :: l => match T.setO 60 (mkT l) k o with | some t => t | none => mkT l
theorem mkT_get {α : Type} : ∀ (l : List (Nat × α)) (k : Nat) (o : α), (mkT l).get k = some o → (k, o) ∈ l
 | [], k, o, h => by
  have h : (T.leaf : T α).get k = some o := h
  rw [T.get_leaf] at h; cases h
 | (k0, o0) :: l, k, o, h => by
  simp only [mkT] at h
  split at h
  ·rename_i t ht
   rw [T.get_setO o0 60 _ t k0 ht k] at h
   by_cases hk : k = k0
   ·rw [if_pos hk] at h
    injection h with h; subst h; subst hk
    exact List.mem_cons_self
   ·rw [if_neg hk] at h
    exact List.mem_cons_of_mem _ (mkT_get l k o h)
  ·exact List.mem_cons_of_mem _ (mkT_get l k o h)

/-- two variables of two cells each, at their numbers -/
noncomputable def heapP (k0 k1 : Nat) (a0 b0 a1 b1 : Value) (e0 e1 : TypeId) : T AO := mkT [(k0, pairRow a0 b0 e0), (k1, pairRow a1 b1 e1)]
theorem heapP_ok {k0 k1 : Nat} {a0 b0 a1 b1 : Value} {e0 e1 : TypeId} {W : World} {ob0 ob1 : Obj} (g0 : k0 < 1000) (g1 : k1 < 1000) (h0 : W.heap[k0]? = some ob0) (r0 : ORel sg0 0 (pairRow a0 b0 e0) ob0) (h1 : W.heap[k1]? = some ob1) (r1 : ORel sg0 0 (pairRow a1 b1 e1) ob1) :
  Laid (heapP k0 k1 a0 b0 a1 b1 e0 e1) W := by
 intro k o hk
 have := mkT_get _ k o hk
 simp only [List.mem_cons, Prod.mk.injEq, List.not_mem_nil, or_false] at this
 rcases this with ⟨rfl, rfl⟩ | ⟨rfl, rfl⟩
 ·exact ⟨g0, rfl, ob0, h0, r0⟩
 ·exact ⟨g1, rfl, ob1, h1, r1⟩
end Go.Proofs.YtflnpcgnenhogaaGreatDoor.ev

namespace Go.Proofs.YtflnpcgnenhogaaGreatDoor.ev
open Go Go.RowKit
noncomputable section

/-! ### a call at a known state: what it comes to -/
def opEq {α : Type} (eq : α → α → Bool) : Option α → Option α → Bool
 | none, none => true
 | some a, some b => eq a b
 | _, _ => false
def T.eqB {α : Type} (eq : α → α → Bool) : T α → T α → Bool
 | .leaf, .leaf => true
 | .node l v r, .node l' v' r' => T.eqB eq l l' && opEq eq v v' && T.eqB eq r r'
 | _, _ => false
def meEq (a b : MapEntry) : Bool := veq 7 a.key b.key && veq 7 a.val b.val && Nat.beq a.born b.born
def mesEq : List MapEntry → List MapEntry → Bool
 | [], [] => true
 | a :: aas, b :: bs => meEq a b && mesEq aas bs
 | _, _ => false
def lzEq : Option Nat → Option Nat → Bool
 | none, none => true
 | some a, some b => Nat.beq a b
 | _, _ => false
def boolEq : Bool → Bool → Bool
 | true, true => true
 | false, false => true
 | _, _ => false
def aoEq : AO → AO → Bool
 | .row n c d e lz wr, .row n' c' d' e' lz' wr' => Nat.beq n n' && veq 7 d d' && Nat.beq e e' && lzEq lz lz' && boolEq wr wr' && T.eqB (veq 7) c c'
 | .map es k, .map es' k' => mesEq es es' && Nat.beq k k'
 | .dead, .dead => true
 | _, _ => false
def holds (h : H) : List (Nat × AO) → Bool
 | [] => true
 | (k, o) :: l => (match h.heap.get k with | some o' => aoEq o' o | none => false) && holds h l
/-! ### short words for states that are written out -/
def vi (k : IntKind) (n : Nat) : Value := .int k (.ofNat n)
def vb (n : Nat) : Value := .int .u8 (.ofNat n)
def vj (n : Nat) : Value := .int .i64 (.ofNat n)
def vs (l : List Nat) : Value := .string ⟨⟨l.map UInt8.ofNat⟩⟩
def vl (k o d n : Nat) : Value := .slice (some ⟨k, o, some d⟩) n 0
def v0 : Value := .slice none 0 0
def tq (v : Value) : T Value := .node .leaf (some v) .leaf
def ty (l : T Value) (v : Value) (r : T Value) : T Value := .node l (some v) r
end
end Go.Proofs.YtflnpcgnenhogaaGreatDoor.ev

namespace Go.Proofs.YtflnpcgnenhogaaGreatDoor.ev
open Go Go.RowKit
noncomputable section

/-! ### calls of the library that are known: the text builder's copy check and its string; a text repeated -/
section
variable {P : Program} {g : FuncId} {tb u8 : TypeId}
end
end
end Go.Proofs.YtflnpcgnenhogaaGreatDoor.ev
