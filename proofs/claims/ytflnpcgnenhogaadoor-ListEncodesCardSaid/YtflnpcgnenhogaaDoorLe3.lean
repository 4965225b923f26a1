/- Own lemmas, laid together. -/
import Derived.Test.YtflnpcgnenhogaaDoorLe2
import Derived.RangeFuncIn
import Derived.Scope
import Derived.Lib.Repeat
import Derived.Test.YtflnpcgnenhogaaDoorRows
import Derived.KernelRfl
import Derived.WalkKit
import Derived.Deep.QuietTactic
import Derived.Laws.IdiomCopy
import Derived.Lib.Hide
import Init
import Derived.BigQuiet
import Derived.BigRegion
import Derived.Deep.CutRange
import Derived.Deep.Upon
import Derived.Laws.IdiomStrings
import Derived.IntWalk
import Derived.StillTailTactics
import Derived.Maps.AppendAt
import Derived.Laws.BitsLemmas
import Derived.Laws.Bits64
import Derived.Laws.BytesArg
import Derived.Deep.AppendSrc
namespace Go.Proofs.YtflnpcgnenhogaaDoor.ev
open Go Go.RowKit

/-! ### a step is seen by a larger heap -/
section
variable {B : Nat} {σ σ' : Sg} {hp hp1 hp1' : Nat → Option AO} {nx nx' : Nat} {w w' : World}

theorem HR.sub (h : HR B σ hp nx w) (hs : ∀ k o, hp1 k = some o → hp k = some o) : HR B σ hp1 nx w := by
  refine ⟨fun k o h1 h2 => h.live k o (hs k o h1) h2, fun k k' o o' b κ κ' h1 h2 h3 h4 h5 h6 => h.inj k k' o o' b κ κ' (hs _ _ h1) h2 (hs _ _ h3) h4 h5 h6, fun k hk => ⟨(h.fresh k hk).1, ?_⟩, h.base, h.glob⟩
  cases he : hp1 k with
  | none => rfl
  | some o => have := hs k o he; rw [(h.fresh k hk).2] at this; cases this

theorem Step.frame (h : HR B σ hp nx w) (hs : ∀ k o, hp1 k = some o → hp k = some o) (st : Step B σ hp1 nx w σ' hp1' nx' w') :
    Step B σ hp nx w σ' (fun k => match hp1' k with | some o => some o | none => hp k) nx' w' := by
  have h1 := h.sub hs
  have hle := st.le h1
  have hlt : ∀ k o, hp k = some o → k < nx := fun k o hk => by
    rcases Nat.lt_or_ge k nx with h' | h'
    · exact h'
    · rw [(h.fresh k h').2] at hk; cases hk
  have two : ∀ k o, (match hp1' k with | some o => some o | none => hp k) = some o → hp1' k = some o ∨ (hp1' k = none ∧ hp1 k = none ∧ hp k = some o) := fun k o hk => by
    cases he : hp1' k with
    | some o' => rw [he] at hk; exact .inl hk
    | none =>
      rw [he] at hk
      refine .inr ⟨rfl, ?_, hk⟩
      cases hq : hp1 k with
      | none => rfl
      | some o' => obtain ⟨_, h2⟩ := st.keepS k o' hq; rw [he] at h2; cases h2
  have stay : ∀ k o b κ, hp1 k = none → hp k = some o → o.isDead = false → σ k = some (b, κ) → w'.heap[b]? = w.heap[b]? := fun k o b κ g1 g2 g3 g4 => by
    refine st.old b (h.lt_of g2 g3 g4) fun k0 o0 κ0 e1 e2 e3 e4 => ?_
    have := h.inj k0 k o0 o b κ0 κ (hs _ _ e1) e2 g2 g3 e4 g4
    subst this
    rw [g1] at e1; cases e1
  refine ⟨st.os, st.tape, st.output, st.size, fun b hb hn => st.old b hb fun k o κ e1 e2 e3 e4 => hn k o κ (hs _ _ e1) e2 e3 e4, fun k o b κ e1 e2 e3 => ?_, st.keep, fun k hk hn => ?_, fun k o hk => ?_, st.nxle, ⟨fun k o e1 e2 => ?_, fun k k' o o' b κ κ' e1 e2 e3 e4 e5 e6 => ?_, fun k hk => ?_, st.hr.base, st.hr.glob⟩⟩
  · rcases two k o e1 with g | ⟨_, g2, g3⟩
    · rcases st.img k o b κ g e2 e3 with g4 | ⟨k0, o0, κ0, a1, a2, a3, a4⟩
      · exact .inl g4
      · exact .inr ⟨k0, o0, κ0, hs _ _ a1, a2, a3, a4⟩
    · rw [st.keep k (hlt k o g3)] at e3
      exact .inr ⟨k, o, κ, g3, e2, e3, id⟩
  · have : hp1 k = none := by
      cases he : hp1 k with
      | none => rfl
      | some o => rw [hs _ _ he] at hn; cases hn
    simp only [st.keepN k hk this]
    exact hn
  · cases he : hp1' k with
    | some o' => exact ⟨o', rfl⟩
    | none => exact ⟨o, hk⟩
  · rcases two k o e1 with g | ⟨_, g2, g3⟩
    · exact st.hr.live k o g e2
    · obtain ⟨b, κ, ob, a1, a2, a3, a4⟩ := h.live k o g3 e2
      refine ⟨b, κ, ob, by rw [st.keep k (hlt k o g3)]; exact a1, by rw [stay k o b κ g2 g3 e2 a1]; exact a2, a3.mono hle, a4⟩
  · have mixed : ∀ k k' o o' κ κ', hp1' k = some o → o.isDead = false → σ' k = some (b, κ) → hp1' k' = none → hp1 k' = none → hp k' = some o' → o'.isDead = false → σ' k' = some (b, κ') → False := fun k k' o o' κ κ' g1 g2 g3 g4 g5 g6 g7 g8 => by
      rw [st.keep k' (hlt k' o' g6)] at g8
      have hb := h.lt_of g6 g7 g8
      rcases st.img k o b κ g1 g2 g3 with x | ⟨k0, o0, κ0, a1, a2, a3, _⟩
      · omega
      · have := h.inj k0 k' o0 o' b κ0 κ' (hs _ _ a1) a2 g6 g7 a3 g8
        subst this
        rw [g5] at a1; cases a1
    rcases two k o e1 with g | ⟨g1, g2, g3⟩
    · rcases two k' o' e3 with j | ⟨j1, j2, j3⟩
      · exact st.hr.inj k k' o o' b κ κ' g e2 j e4 e5 e6
      · exact (mixed k k' o o' κ κ' g e2 e5 j1 j2 j3 e4 e6).elim
    · rcases two k' o' e3 with j | ⟨j1, j2, j3⟩
      · exact (mixed k' k o' o κ' κ j e4 e6 g1 g2 g3 e2 e5).elim
      · rw [st.keep k (hlt k o g3)] at e5
        rw [st.keep k' (hlt k' o' j3)] at e6
        exact h.inj k k' o o' b κ κ' g3 e2 j3 e4 e5 e6
  · have := st.hr.fresh k hk
    refine ⟨this.1, ?_⟩
    simp only [this.2]
    exact (h.fresh k (Nat.le_trans st.nxle hk)).2

/-- what is left out at the end -/
theorem Step.less {hp' hp2 : Nat → Option AO} (st : Step B σ hp nx w σ' hp' nx' w') (hs : ∀ k o, hp2 k = some o → hp' k = some o) (hk : ∀ k o, hp k = some o → ∃ o', hp2 k = some o') : Step B σ hp nx w σ' hp2 nx' w' := by
  refine ⟨st.os, st.tape, st.output, st.size, st.old, fun k o b κ e1 e2 e3 => st.img k o b κ (hs _ _ e1) e2 e3, st.keep, fun k hlt hn => ?_, hk, st.nxle, st.hr.sub hs⟩
  cases he : hp2 k with
  | none => rfl
  | some o => have := hs _ _ he; rw [st.keepN k hlt hn] at this; cases this

/-- a block at a number that was set aside -/
theorem Step.allocAt {σ0 : Sg} {hp0 : Nat → Option AO} {nx0 : Nat} {w0 : World} (st : Step B σ0 hp0 nx0 w0 σ hp nx w) {id : Nat} (h1 : nx0 ≤ id) (h2 : id < nx) (h3 : hp id = none) (h4 : σ id = none) {o : AO} {κ : Nat} {ob : Obj}
    (ho : ORel (σ.set id w.heap.size κ) κ o ob) : Step B σ0 hp0 nx0 w0 (σ.set id w.heap.size κ) (fun k => if k = id then some o else hp k) nx (w.alloc ob) := by
  have h := st.hr
  have hle : σ.le (σ.set id w.heap.size κ) := Sg.set_le _ _ h4
  have hheap : (w.alloc ob).heap = w.heap.push ob := rfl
  have hnew : (w.alloc ob).heap[w.heap.size]? = some ob := by rw [hheap]; simp
  have hold : ∀ c, c < w.heap.size → (w.alloc ob).heap[c]? = w.heap[c]? := fun c hc => by rw [hheap, Array.getElem?_push]; rw [if_neg (by omega)]
  have hsz : (w.alloc ob).heap.size = w.heap.size + 1 := by rw [hheap]; simp
  refine ⟨st.os, st.tape, st.output, by have := st.size; omega, fun c hc hn => by rw [hold c (Nat.lt_of_lt_of_le hc st.size)]; exact st.old c hc hn, fun j oj c κj g1 g2 g3 => ?_, fun j hj => by rw [Sg.set_other _ _ _ (by omega)]; exact st.keep j hj, fun j hj hn => ?_, fun j oj hj => ?_, st.nxle,
    ⟨fun j oj g1 g2 => ?_, fun j j' oj oj' c κj κj' g1 g2 g3 g4 g5 g6 => ?_, fun j hj => ?_, by have := h.base; omega, fun i hi => ?_⟩⟩
  · by_cases hj : j = id
    · subst hj
      rw [Sg.set_same] at g3; injection g3 with g3; injection g3 with g3 g4; subst g3
      exact .inl st.size
    · simp only [hj, if_false] at g1
      rw [Sg.set_other _ _ _ hj] at g3
      exact st.img j oj c κj g1 g2 g3
  · rw [if_neg (by omega)]; exact st.keepN j hj hn
  · by_cases hj' : j = id
    · exact ⟨o, if_pos hj'⟩
    · simp only [hj', if_false]; exact st.keepS j oj hj
  · by_cases hj : j = id
    · subst hj
      simp only [if_true] at g1
      injection g1 with g1; subst g1
      exact ⟨w.heap.size, κ, ob, Sg.set_same _ _ _ _, hnew, ho, fun _ => h.base⟩
    · simp only [hj, if_false] at g1
      obtain ⟨c, κj, oc, a1, a2, a3, a4⟩ := h.live j oj g1 g2
      exact ⟨c, κj, oc, by rw [Sg.set_other _ _ _ hj]; exact a1, by rw [hold c (h.lt_of g1 g2 a1)]; exact a2, a3.mono hle, a4⟩
  · have key : ∀ i oi, (if i = id then some o else hp i) = some oi → oi.isDead = false → i ≠ id → ∃ b' κ', σ i = some (b', κ') ∧ b' < w.heap.size ∧ hp i = some oi := fun i oi x1 x2 x3 => by
      rw [if_neg x3] at x1
      obtain ⟨b', κ', _, a1, _⟩ := h.live i oi x1 x2
      exact ⟨b', κ', a1, h.lt_of x1 x2 a1, x1⟩
    by_cases hj : j = id
    · by_cases hj' : j' = id
      · omega
      · obtain ⟨b', κ', a1, a2, _⟩ := key j' oj' g3 g4 hj'
        rw [Sg.set_other _ _ _ hj', a1] at g6
        subst hj
        rw [Sg.set_same] at g5
        injection g5 with g5; injection g5 with g5 _
        injection g6 with g6; injection g6 with g6 _
        omega
    · by_cases hj' : j' = id
      · obtain ⟨b', κ', a1, a2, _⟩ := key j oj g1 g2 hj
        rw [Sg.set_other _ _ _ hj, a1] at g5
        subst hj'
        rw [Sg.set_same] at g6
        injection g5 with g5; injection g5 with g5 _
        injection g6 with g6; injection g6 with g6 _
        omega
      · obtain ⟨_, _, _, _, x1⟩ := key j oj g1 g2 hj
        obtain ⟨_, _, _, _, y1⟩ := key j' oj' g3 g4 hj'
        rw [Sg.set_other _ _ _ hj] at g5
        rw [Sg.set_other _ _ _ hj'] at g6
        exact h.inj j j' oj oj' c κj κj' x1 g2 y1 g4 g5 g6
  · have := h.fresh j hj
    exact ⟨by rw [Sg.set_other _ _ _ (by omega)]; exact this.1, by rw [if_neg (by omega)]; exact this.2⟩
  · rw [Sg.set_other _ _ _ ?_]
    · exact h.glob i hi
    · rintro rfl
      have := h.glob i hi
      rw [h4] at this
      cases this
end

/-! ### values that are told equal are equal -/
theorem allEq_eq {eq : Value → Value → Bool} (he : ∀ x y, eq x y = true → x = y) : ∀ xs ys : List Value, allEq eq xs ys = true → xs = ys
  | [], [], _ => rfl
  | x :: xs, y :: ys, h => by
    simp only [allEq, Bool.and_eq_true] at h
    rw [he x y h.1, allEq_eq he xs ys h.2]
  | [], _ :: _, h => by cases h
  | _ :: _, [], h => by cases h
theorem veq_eq : ∀ (n : Nat) (x y : Value), veq n x y = true → x = y
  | 0, _, _, h => by cases h
  | n + 1, x, y, h => by
    have ih := allEq_eq (veq_eq n)
    unfold veq at h
    split at h
    · simp at h; rw [h]
    · simp at h; rw [h.1, h.2]
    · rw [bytesEq_iff] at h; rw [ByteArray.ext (Array.ext' (of_decide_eq_true h))]
    · simp at h; rw [h]
    · simp only [Bool.and_eq_true, decide_eq_true_eq] at h; rw [h.1.1, beq_of h.1.2, beq_of h.2]
    · simp at h; rw [h]
    · rfl
    · rfl
    · simp only [Bool.and_eq_true, decide_eq_true_eq] at h
      rw [h.1.1, Array.ext' (ih _ _ h.1.2), Array.ext' (ih _ _ h.2)]
    · simp only [Bool.and_eq_true] at h; rw [beq_of h.1, veq_eq n _ _ h.2]
    · rw [Array.ext' (ih _ _ h)]
    · rw [Array.ext' (ih _ _ h)]
    · cases h
end Go.Proofs.YtflnpcgnenhogaaDoor.ev

namespace Go.Proofs.YtflnpcgnenhogaaDoor.ev
open Go Go.RowKit

/-! ### what stands in front of what -/
structure Fore (ops : Array Oper) (ms : Nat → Nat) : Prop where
  edge : ∀ (i : Nat) (o : Oper), ops[i]? = some o → ∀ e ∈ o.after, Region.binds .any e = true → e.on < i
  mask : ∀ (i : Nat) (o : Oper) (b : Nat), ops[i]? = some o → (ms i).testBit b = true → ∃ e ∈ o.after, Region.binds .any e = true ∧ (e.on = b ∨ (e.on < i ∧ (ms e.on).testBit b = true))
  pair : ∀ (i j : Nat) (oi oj : Oper), i < j → ops[i]? = some oi → ops[j]? = some oj → oi.apart ops oj = true ∨ (ms j).testBit i = true

theorem edgesB_spec : ∀ (os : List Oper) (i : Nat), edgesB i os = true → ∀ (j : Nat) (o : Oper), os[j]? = some o → ∀ e ∈ o.after, Region.binds .any e = true → e.on < i + j
  | [], _, _, _, _, h => by simp at h
  | o :: os, i, h, j, p, hj => by
    simp only [edgesB, Bool.and_eq_true, List.all_eq_true] at h
    cases j with
    | zero =>
      simp only [List.getElem?_cons_zero, Option.some.injEq] at hj; subst hj
      intro e he hb
      have := h.1 e (by simpa using he)
      simp only [hb, Bool.not_true, Bool.false_or] at this
      simpa using blt_of this
    | succ j =>
      simp only [List.getElem?_cons_succ] at hj
      intro e he hb
      have := edgesB_spec os (i + 1) h.2 j p hj e he hb
      omega

theorem foldBits (acc : List Nat) (b : Nat) : ∀ (es : List Edge) (s : Nat), (es.foldl (fun s e => bif Region.binds .any e then s ||| 2 ^ e.on ||| acc.getD e.on 0 else s) s).testBit b = true →
    s.testBit b = true ∨ ∃ e ∈ es, Region.binds .any e = true ∧ (e.on = b ∨ (acc.getD e.on 0).testBit b = true)
  | [], s, h => .inl h
  | e :: es, s, h => by
    rw [List.foldl_cons] at h
    rcases foldBits acc b es _ h with h1 | ⟨e', h1, h2, h3⟩
    · cases hb : Region.binds .any e with
      | false => rw [hb] at h1; exact .inl h1
      | true =>
        rw [hb] at h1
        simp only [cond_true, Nat.testBit_or, Bool.or_eq_true, Nat.testBit_two_pow, decide_eq_true_eq] at h1
        rcases h1 with (h1 | h1) | h1
        · exact .inl h1
        · exact .inr ⟨e, by simp, hb, .inl h1⟩
        · exact .inr ⟨e, by simp, hb, .inr h1⟩
    · exact .inr ⟨e', by simp [h1], h2, h3⟩

theorem masksA_pre : ∀ (os : List Oper) (acc : List Nat) (k : Nat), k < acc.length → (masksA acc os)[k]? = acc[k]?
  | [], _, _, _ => rfl
  | o :: os, acc, k, hk => by
    rw [masksA, masksA_pre os _ k (by simp; omega), List.getElem?_append_left hk]
theorem masksA_spec : ∀ (os : List Oper) (acc : List Nat) (j : Nat) (o : Oper) (b : Nat), os[j]? = some o → ((masksA acc os).getD (acc.length + j) 0).testBit b = true →
    ∃ e ∈ o.after, Region.binds .any e = true ∧ (e.on = b ∨ (e.on < acc.length + j ∧ ((masksA acc os).getD e.on 0).testBit b = true))
  | [], _, _, _, _, h, _ => by simp at h
  | o :: os, acc, j, p, b, hj, hb => by
    cases j with
    | zero =>
      simp only [List.getElem?_cons_zero, Option.some.injEq] at hj; subst hj
      rw [masksA, List.getD_eq_getElem?_getD, masksA_pre os _ _ (by simp)] at hb
      simp only [Nat.add_zero, List.getElem?_concat_length, Option.getD_some] at hb
      rcases foldBits acc b _ _ hb with h1 | ⟨e, h1, h2, h3⟩
      · simp at h1
      · refine ⟨e, by simpa using h1, h2, h3.imp id fun h4 => ?_⟩
        have hlt : e.on < acc.length := by
          rcases Nat.lt_or_ge e.on acc.length with h' | h'
          · exact h'
          · rw [List.getD_eq_getElem?_getD, List.getElem?_eq_none h'] at h4
            simp at h4
        refine ⟨by omega, ?_⟩
        rw [masksA, List.getD_eq_getElem?_getD, masksA_pre os _ _ (by simp; omega), List.getElem?_append_left hlt, ← List.getD_eq_getElem?_getD]
        exact h4
    | succ j =>
      simp only [List.getElem?_cons_succ] at hj
      rw [masksA] at hb ⊢
      generalize hacc : acc ++ [o.after.toList.foldl (fun s e => bif Region.binds .any e then s ||| 2 ^ e.on ||| acc.getD e.on 0 else s) 0] = acc' at hb ⊢
      have hl : acc'.length = acc.length + 1 := by rw [← hacc]; simp
      have := masksA_spec os acc' j p b hj (by rw [hl, show acc.length + 1 + j = acc.length + (j + 1) by omega]; exact hb)
      rw [hl, show acc.length + 1 + j = acc.length + (j + 1) by omega] at this
      exact this

theorem pairB_spec {ops : Array Oper} {oj : Oper} {m : Nat} : ∀ (os : List Oper) (i : Nat), pairB ops oj m i os = true → ∀ (t : Nat) (oi : Oper), os[t]? = some oi → oi.apart ops oj = true ∨ m.testBit (i + t) = true
  | [], _, _, _, _, h => by simp at h
  | o :: os, i, h, t, oi, ht => by
    simp only [pairB, Bool.and_eq_true, Bool.or_eq_true] at h
    cases t with
    | zero =>
      simp only [List.getElem?_cons_zero, Option.some.injEq] at ht; subst ht
      exact h.1
    | succ t =>
      simp only [List.getElem?_cons_succ] at ht
      have := pairB_spec os (i + 1) h.2 t oi ht
      rwa [show i + 1 + t = i + (t + 1) by omega] at this
theorem pairsB_spec {ops : Array Oper} : ∀ (os done : List Oper) (ms : List Nat), pairsB ops done os ms = true → ∀ (j : Nat) (oj : Oper), os[j]? = some oj → ∀ (i : Nat) (oi : Oper), i < done.length + j → (done ++ os)[i]? = some oi →
    oi.apart ops oj = true ∨ (ms.getD j 0).testBit i = true
  | [], _, _, _, _, _, h => by simp at h
  | o :: os, done, [], h, _, _, _ => by simp [pairsB] at h
  | o :: os, done, m :: ms, h, j, oj, hj => by
    simp only [pairsB, Bool.and_eq_true] at h
    intro i oi hi hio
    cases j with
    | zero =>
      simp only [List.getElem?_cons_zero, Option.some.injEq] at hj; subst hj
      rw [List.getElem?_append_left (by omega)] at hio
      have := pairB_spec done 0 h.1 i oi hio
      simpa using this
    | succ j =>
      simp only [List.getElem?_cons_succ] at hj
      have := pairsB_spec os (done ++ [o]) ms h.2 j oj hj i oi (by simp; omega) (by simpa using hio)
      simpa using this

theorem drawOk_fore {ops : Array Oper} (h : drawOk ops = true) : Fore ops fun i => (masksA [] ops.toList).getD i 0 := by
  simp only [drawOk, Bool.and_eq_true] at h
  refine ⟨fun i o ho e he hb => ?_, fun i o b ho hb => ?_, fun i j oi oj hij hi hj => ?_⟩
  · have := edgesB_spec ops.toList 0 h.1 i o (by simpa using ho) e he hb
    omega
  · have := masksA_spec ops.toList [] i o b (by simpa using ho) (by simpa using hb)
    simpa using this
  · exact pairsB_spec ops.toList [] _ h.2 j oj (by simpa using hj) i oi (by simpa using hij) (by simpa using hi)

/-! ### what an operation does in the run in text order -/
inductive SC (P : Program) (tab : Tab) (rec : Code → F → H → Option R) (ops : Array Oper) (i m : Nat) (o : Oper) (d : D) : D → Prop
  | off {f'} (hw : wantedA ops o d.f.get = false) (hp : d.f.put o.dst undef = some f') : SC P tab rec ops i m o d { d with f := f' }
  | pure {v f'} (hw : wantedA ops o d.f.get = true) (hk : kindOf P o.op = 0) (hh : readsHeap o.op = false) (hx : xq P o d.f.get d.h = some v) (hp : d.f.put o.dst v = some f') : SC P tab rec ops i m o d { d with f := f' }
  | read {v f'} (hw : wantedA ops o d.f.get = true) (hk : kindOf P o.op = 0) (hx : xqAt P m d.made o d.f d.h = some v) (hp : d.f.put o.dst v = some f') (hs : sameAt P m d.made o d.f v (d.old.take (freeW m d.ws)) = true) :
      SC P tab rec ops i m o d { d with f := f', qs := ⟨i, m, o, d.f, v⟩ :: d.qs }
  | make {v r f'} (hw : wantedA ops o d.f.get = true) (hk : kindOf P o.op = 1) (hx : xa P o d.f.get d.nid = some (v, r)) (hp : d.f.put o.dst v = some f') :
      SC P tab rec ops i m o d { d with f := f', made := ⟨i, d.nid, r⟩ :: d.made, nid := d.nid + 1 }
  | write {v g h' f'} (hw : wantedA ops o d.f.get = true) (hl : ∀ j js, d.ws = j :: js → m.testBit j = true) (ha : activate m d.made d.h = some g) (hx : wrA P tab rec o d.f g = some (v, h')) (hp : d.f.put o.dst v = some f') (hq : qsOk P m d.made h' d.qs = true) :
      SC P tab rec ops i m o d { d with f := f', h := h', old := d.h :: d.old, ws := i :: d.ws }

def headB (m : Nat) : List Nat → Bool
  | [] => true
  | j :: _ => m.testBit j
theorem drawStep_SC {P : Program} {tab : Tab} {rec : Code → F → H → Option R} {ops : Array Oper} {i m : Nat} {o : Oper} {d d' : D} (h : drawStep P tab rec ops i m o d = some d') : SC P tab rec ops i m o d d' := by
  unfold drawStep at h
  split at h
  · rename_i hw
    split at h
    · rename_i f' hp
      injection h with h; subst h
      exact .off hw hp
    · cases h
  · rename_i hw
    split at h
    · rename_i hk
      cases hh : readsHeap o.op with
      | true =>
        rw [hh] at h
        simp only [cond_true] at h
        split at h
        · rename_i v hx
          split at h
          · rename_i f' hp
            cases hs : sameAt P m d.made o d.f v (d.old.take (freeW m d.ws)) with
            | false => rw [hs] at h; cases h
            | true =>
              rw [hs] at h
              simp only [cond_true, Option.some.injEq] at h
              subst h
              exact .read hw hk hx hp hs
          · cases h
        · cases h
      | false =>
        rw [hh] at h
        simp only [cond_false] at h
        split at h
        · rename_i v hx
          split at h
          · rename_i f' hp
            injection h with h; subst h
            exact .pure hw hk hh hx hp
          · cases h
        · cases h
    · rename_i hk
      split at h
      · rename_i v r hx
        split at h
        · rename_i f' hp
          injection h with h; subst h
          exact .make hw hk hx hp
        · cases h
      · cases h
    · change (bif headB m d.ws then _ else none) = some d' at h
      cases hl : headB m d.ws with
      | false => rw [hl] at h; cases h
      | true =>
        rw [hl] at h
        simp only [cond_true] at h
        split at h
        · rename_i g ha
          split at h
          · rename_i v h' hx
            split at h
            · rename_i f' hp
              cases hq : qsOk P m d.made h' d.qs with
              | false => rw [hq] at h; cases h
              | true =>
                rw [hq] at h
                simp only [cond_true, Option.some.injEq] at h
                subst h
                exact .write hw (fun j js hj => by rw [hj] at hl; exact hl) ha hx hp hq
            · cases h
          · cases h
        · cases h

structure Tr (P : Program) (tab : Tab) (rec : Code → F → H → Option R) (ops : Array Oper) (ms : Nat → Nat) (S : Nat → D) (f0 : F) (h0 : H) (top : Nat) : Prop where
  fore : Fore ops ms
  start : S 0 = ⟨f0, ⟨h0.heap, h0.next + top⟩, [], [], [], [], h0.next⟩
  step : ∀ (i : Nat) (o : Oper), ops[i]? = some o → SC P tab rec ops i (ms i) o (S i) (S (i + 1))
  nid : (S ops.size).nid ≤ h0.next + top

theorem drawGo_tr {P : Program} {tab : Tab} {rec : Code → F → H → Option R} {ops : Array Oper} : ∀ (os : List Oper) (ms : List Nat) (i : Nat) (d d' : D), drawGo P tab rec ops i os ms d = some d' →
    ∃ S : Nat → D, S i = d ∧ S (i + os.length) = d' ∧ ∀ (j : Nat) (o : Oper), os[j]? = some o → SC P tab rec ops (i + j) (ms.getD j 0) o (S (i + j)) (S (i + j + 1))
  | [], ms, i, d, d', h => by
    simp only [drawGo, Option.some.injEq] at h
    exact ⟨fun _ => d, rfl, h, fun j o hj => by simp at hj⟩
  | o :: os, [], i, d, d', h => by simp [drawGo] at h
  | o :: os, m :: ms, i, d, d', h => by
    simp only [drawGo] at h
    split at h
    · rename_i d1 hd
      obtain ⟨S, h1, h2, h3⟩ := drawGo_tr os ms (i + 1) d1 d' h
      refine ⟨fun j => if j ≤ i then d else S j, by simp, ?_, fun j p hj => ?_⟩
      · show (if i + (os.length + 1) ≤ i then d else S (i + (os.length + 1))) = d'
        rw [if_neg (by omega), ← h2]
        congr 1
        omega
      · cases j with
        | zero =>
          simp only [List.getElem?_cons_zero, Option.some.injEq] at hj; subst hj
          simp only [Nat.add_zero, Nat.le_refl, if_true]
          rw [if_neg (by omega), h1]
          exact drawStep_SC hd
        | succ j =>
          simp only [List.getElem?_cons_succ] at hj
          have := h3 j p hj
          show SC P tab rec ops (i + (j + 1)) ((m :: ms).getD (j + 1) 0) p (if i + (j + 1) ≤ i then d else S (i + (j + 1))) (if i + (j + 1) + 1 ≤ i then d else S (i + (j + 1) + 1))
          rw [if_neg (by omega), if_neg (by omega)]
          rw [show i + (j + 1) = i + 1 + j by omega]
          simpa using this
    · cases h
end Go.Proofs.YtflnpcgnenhogaaDoor.ev

namespace Go.Proofs.YtflnpcgnenhogaaDoor.ev
open Go Go.RowKit

def Wr (S : Nat → D) (i : Nat) : Prop := (S (i + 1)).ws = i :: (S i).ws
def dstOf (ops : Array Oper) (i : Nat) : Option Tmp := (ops[i]?).bind (·.dst)
noncomputable def Fr (S : Nat → D) (ops : Array Oper) (L : Nat → Bool) : Nat → Nat → Value
  | 0, t => (S 0).f.get t
  | n + 1, t => if L n = true ∧ dstOf ops n = some t then (S (n + 1)).f.get t else Fr S ops L n t
def upd (L : Nat → Bool) (i : Nat) : Nat → Bool := fun j => if j = i then true else L j
def Closed (ops : Array Oper) (L : Nat → Bool) : Prop := ∀ (i : Nat) (o : Oper), L i = true → ops[i]? = some o → ∀ e ∈ o.after, Region.binds .any e = true → L e.on = true

section
variable {P : Program} {tab : Tab} {rec : Code → F → H → Option R} {ops : Array Oper} {ms : Nat → Nat} {S : Nat → D} {f0 : F} {h0 : H} {top : Nat}

theorem SC.put {i m : Nat} {o : Oper} {d d' : D} (s : SC P tab rec ops i m o d d') : ∃ v, d.f.put o.dst v = some d'.f := by
  cases s with
  | off hw hp => exact ⟨_, hp⟩
  | pure hw hk hh hx hp => exact ⟨_, hp⟩
  | read hw hk hx hp hs => exact ⟨_, hp⟩
  | make hw hk hx hp => exact ⟨_, hp⟩
  | write hw hl ha hx hp hq => exact ⟨_, hp⟩
theorem SC.ws {i m : Nat} {o : Oper} {d d' : D} (s : SC P tab rec ops i m o d d') : (d'.ws = d.ws ∧ d'.h = d.h ∧ d'.old = d.old) ∨
    (d'.ws = i :: d.ws ∧ d'.old = d.h :: d.old ∧ (∀ j js, d.ws = j :: js → m.testBit j = true) ∧ qsOk P m d.made d'.h d.qs = true) := by
  cases s with
  | off hw hp => exact .inl ⟨rfl, rfl, rfl⟩
  | pure hw hk hh hx hp => exact .inl ⟨rfl, rfl, rfl⟩
  | read hw hk hx hp hs => exact .inl ⟨rfl, rfl, rfl⟩
  | make hw hk hx hp => exact .inl ⟨rfl, rfl, rfl⟩
  | write hw hl ha hx hp hq => exact .inr ⟨rfl, rfl, hl, hq⟩
theorem SC.made {i m : Nat} {o : Oper} {d d' : D} (s : SC P tab rec ops i m o d d') : (d'.made = d.made ∧ d'.nid = d.nid) ∨ ∃ r, d'.made = ⟨i, d.nid, r⟩ :: d.made ∧ d'.nid = d.nid + 1 := by
  cases s with
  | off hw hp => exact .inl ⟨rfl, rfl⟩
  | pure hw hk hh hx hp => exact .inl ⟨rfl, rfl⟩
  | read hw hk hx hp hs => exact .inl ⟨rfl, rfl⟩
  | make hw hk hx hp => exact .inr ⟨_, rfl, rfl⟩
  | write hw hl ha hx hp hq => exact .inl ⟨rfl, rfl⟩
theorem SC.qs {i m : Nat} {o : Oper} {d d' : D} (s : SC P tab rec ops i m o d d') : ∀ q ∈ d.qs, q ∈ d'.qs := by
  intro q hq0
  cases s with
  | off hw hp => exact hq0
  | pure hw hk hh hx hp => exact hq0
  | read hw hk hx hp hs => exact List.mem_cons_of_mem _ hq0
  | make hw hk hx hp => exact hq0
  | write hw hl ha hx hp hq => exact hq0

theorem at_op {i : Nat} (h : i < ops.size) : ∃ o, ops[i]? = some o := ⟨ops[i], Array.getElem?_eq_getElem h⟩
theorem op_lt {i : Nat} {o : Oper} (h : ops[i]? = some o) : i < ops.size := by
  rcases Nat.lt_or_ge i ops.size with h' | h'
  · exact h'
  · rw [Array.getElem?_eq_none h'] at h; cases h

theorem cons_ne {α : Type} (x : α) (l : List α) : l ≠ x :: l := fun h => by have := congrArg List.length h; simp at this

variable (t : Tr P tab rec ops ms S f0 h0 top)
include t

theorem Tr.same : ∀ n, n ≤ ops.size → (S n).f.sz = f0.sz ∧ (S n).f.ds = f0.ds ∧ (S n).f.rd = f0.rd
  | 0, _ => by rw [t.start]; exact ⟨rfl, rfl, rfl⟩
  | n + 1, hn => by
    obtain ⟨o, ho⟩ := at_op (ops := ops) (i := n) (by omega)
    obtain ⟨v, hp⟩ := (t.step n o ho).put
    obtain ⟨h1, h2, h3, _⟩ := put_inv hp
    obtain ⟨g1, g2, g3⟩ := Tr.same n (by omega)
    exact ⟨h1.trans g1, h2.trans g2, h3.trans g3⟩
theorem Tr.get {i : Nat} {o : Oper} (ho : ops[i]? = some o) {x : Tmp} (hx : dstOf ops i ≠ some x) : (S (i + 1)).f.get x = (S i).f.get x := by
  obtain ⟨v, hp⟩ := (t.step i o ho).put
  obtain ⟨_, _, _, _, h5⟩ := put_inv hp
  rw [h5 x, if_neg]
  simpa [dstOf, ho] using hx

theorem Tr.fr_eq {L : Nat → Bool} {i : Nat} {x : Tmp} (hi : i ≤ ops.size) (hL : ∀ j, j < ops.size → dstOf ops j = some x → (L j = true ↔ j < i)) : ∀ n, n ≤ ops.size → Fr S ops L n x = (S (min n i)).f.get x
  | 0, _ => by simp [Fr]
  | n + 1, hn => by
    have ih := Tr.fr_eq hi hL n (by omega)
    obtain ⟨o, ho⟩ := at_op (ops := ops) (i := n) (by omega)
    unfold Fr
    by_cases hlt : n < i
    · rw [show min (n + 1) i = n + 1 by omega]
      rw [show min n i = n by omega] at ih
      split
      · rfl
      · rename_i hc
        rw [ih]
        refine (t.get ho fun hd => hc ⟨(hL n (by omega) hd).2 hlt, hd⟩).symm
    · rw [show min (n + 1) i = i by omega]
      rw [show min n i = i by omega] at ih
      rw [if_neg, ih]
      rintro ⟨c1, c2⟩
      exact hlt ((hL n (by omega) c2).1 c1)

omit t in
theorem Fr_upd {L : Nat → Bool} {i : Nat} {x : Tmp} (hLi : L i = false) (hgt : ∀ j, i < j → L j = true → dstOf ops i = some x → dstOf ops j ≠ some x) : ∀ n, Fr S ops (upd L i) n x = if i < n ∧ dstOf ops i = some x then (S (i + 1)).f.get x else Fr S ops L n x
  | 0 => by simp [Fr]
  | n + 1 => by
    have ih := Fr_upd hLi hgt n
    unfold Fr
    rw [ih]
    by_cases hn : n = i
    · subst hn
      simp [upd, hLi]
    · simp only [upd, hn, if_false]
      by_cases hc : L n = true ∧ dstOf ops n = some x
      · rw [if_pos hc, if_pos hc]
        by_cases hd : i < n + 1 ∧ dstOf ops i = some x
        · exact absurd hc.2 (hgt n (by omega) hc.1 hd.2)
        · rw [if_neg hd]
      · rw [if_neg hc, if_neg hc]
        by_cases hin : i < n
        · by_cases hd : dstOf ops i = some x
          · rw [if_pos ⟨hin, hd⟩, if_pos ⟨by omega, hd⟩]
          · rw [if_neg (fun h => hd h.2), if_neg (fun h => hd h.2)]
        · rw [if_neg (fun h => hin h.1), if_neg (fun h => hin (by omega))]

theorem Tr.not_wr {i : Nat} {o : Oper} (ho : ops[i]? = some o) (hw : ¬ Wr S i) : (S (i + 1)).ws = (S i).ws ∧ (S (i + 1)).h = (S i).h ∧ (S (i + 1)).old = (S i).old := by
  rcases (t.step i o ho).ws with h | h
  · exact h
  · exact absurd h.1 hw
theorem Tr.is_wr {i : Nat} {o : Oper} (ho : ops[i]? = some o) (hw : Wr S i) : (S (i + 1)).old = (S i).h :: (S i).old ∧ (∀ j js, (S i).ws = j :: js → (ms i).testBit j = true) ∧ qsOk P (ms i) (S i).made (S (i + 1)).h (S i).qs = true := by
  rcases (t.step i o ho).ws with h | h
  · unfold Wr at hw
    rw [h.1] at hw
    exact absurd hw (cons_ne _ _)
  · exact h.2
theorem Tr.mem_ws {j : Nat} : ∀ n, n ≤ ops.size → (j ∈ (S n).ws ↔ j < n ∧ Wr S j)
  | 0, _ => by rw [t.start]; simp
  | n + 1, hn => by
    obtain ⟨o, ho⟩ := at_op (ops := ops) (i := n) (by omega)
    have ih := Tr.mem_ws (j := j) n (by omega)
    by_cases hw : Wr S n
    · have h1 : (S (n + 1)).ws = n :: (S n).ws := hw
      rw [h1, List.mem_cons, ih]
      constructor
      · rintro (rfl | ⟨h2, h3⟩)
        · exact ⟨by omega, hw⟩
        · exact ⟨by omega, h3⟩
      · rintro ⟨h2, h3⟩
        by_cases hj : j = n
        · exact .inl hj
        · exact .inr ⟨by omega, h3⟩
    · rw [(t.not_wr ho hw).1, ih]
      constructor
      · rintro ⟨h2, h3⟩; exact ⟨by omega, h3⟩
      · rintro ⟨h2, h3⟩
        by_cases hj : j = n
        · subst hj; exact absurd h3 hw
        · exact ⟨by omega, h3⟩
theorem Tr.head_ws {j0 : Nat} {js : List Nat} : ∀ n, n ≤ ops.size → (S n).ws = j0 :: js → ∀ j, j < n → Wr S j → j ≤ j0
  | 0, _, _, j, hj, _ => by omega
  | n + 1, hn, h, j, hj, hwj => by
    obtain ⟨o, ho⟩ := at_op (ops := ops) (i := n) (by omega)
    by_cases hw : Wr S n
    · have h1 : (S (n + 1)).ws = n :: (S n).ws := hw
      rw [h1] at h
      injection h with h _
      omega
    · rw [(t.not_wr ho hw).1] at h
      by_cases hjn : j = n
      · subst hjn; exact absurd hwj hw
      · exact Tr.head_ws n (by omega) h j (by omega) hwj

theorem Tr.mask_in {L : Nat → Bool} (hc : Closed ops L) {b : Nat} : ∀ (j : Nat) (o : Oper), ops[j]? = some o → (∀ e ∈ o.after, Region.binds .any e = true → L e.on = true) → (ms j).testBit b = true → L b = true := by
  intro j
  induction j using Nat.strongRecOn with
  | ind j ih =>
    intro o ho he hb
    obtain ⟨e, h1, h2, h3⟩ := t.fore.mask j o b ho hb
    rcases h3 with h3 | ⟨h3, h4⟩
    · subst h3; exact he e h1 h2
    · have hl := he e h1 h2
      obtain ⟨o', ho'⟩ := at_op (ops := ops) (i := e.on) (by have := op_lt ho; omega)
      exact ih e.on h3 o' ho' (hc _ _ hl ho') h4

theorem Tr.wr_in {L : Nat → Bool} (hc : Closed ops L) {i : Nat} (hwi : Wr S i) : ∀ (j : Nat) (o : Oper), ops[j]? = some o → (∀ e ∈ o.after, Region.binds .any e = true → L e.on = true) → Wr S j → i < j → L i = true := by
  intro j
  induction j using Nat.strongRecOn with
  | ind j ih =>
    intro o ho he hwj hij
    have hjs := op_lt ho
    have hm := (t.mem_ws (j := i) j (by omega)).2 ⟨hij, hwi⟩
    obtain ⟨_, h2, _⟩ := t.is_wr ho hwj
    cases hws : (S j).ws with
    | nil => rw [hws] at hm; simp at hm
    | cons j0 js =>
      have hl := t.mask_in hc j o ho he (h2 j0 js hws)
      have hle := t.head_ws j (by omega) hws i hij hwi
      have hj0 := (t.mem_ws (j := j0) j (by omega)).1 (by rw [hws]; simp)
      rcases Nat.lt_or_ge i j0 with hlt | hge
      · obtain ⟨o', ho'⟩ := at_op (ops := ops) (i := j0) (by omega)
        exact ih j0 hj0.1 o' ho' (hc _ _ hl ho') hj0.2 hlt
      · have : i = j0 := by omega
        subst this; exact hl

theorem Tr.h_same {n : Nat} : ∀ k, n + k ≤ ops.size → (∀ j, n ≤ j → j < n + k → ¬ Wr S j) → (S (n + k)).h = (S n).h
  | 0, _, _ => rfl
  | k + 1, hk, hn => by
    obtain ⟨o, ho⟩ := at_op (ops := ops) (i := n + k) (by omega)
    rw [← Nat.add_assoc, (t.not_wr ho (hn _ (by omega) (by omega))).2.1]
    exact Tr.h_same k (by omega) fun j h1 h2 => hn j h1 (by omega)

theorem Tr.nid_le {n : Nat} : ∀ k, n + k ≤ ops.size → (S n).nid ≤ (S (n + k)).nid
  | 0, _ => Nat.le_refl _
  | k + 1, hk => by
    obtain ⟨o, ho⟩ := at_op (ops := ops) (i := n + k) (by omega)
    have ih := Tr.nid_le (n := n) k (by omega)
    rw [← Nat.add_assoc]
    rcases (t.step _ o ho).made with h | ⟨r, h⟩
    · rw [h.2]; exact ih
    · rw [h.2]; omega
theorem Tr.nid0 {n : Nat} (hn : n ≤ ops.size) : h0.next ≤ (S n).nid := by
  have := t.nid_le (n := 0) n (by omega)
  rw [Nat.zero_add, t.start] at this
  exact this
theorem Tr.made_lt {p : PE} : ∀ n, n ≤ ops.size → p ∈ (S n).made → p.i < n ∧ h0.next ≤ p.id ∧ p.id < (S n).nid
  | 0, _, h => by rw [t.start] at h; simp at h
  | n + 1, hn, h => by
    obtain ⟨o, ho⟩ := at_op (ops := ops) (i := n) (by omega)
    rcases (t.step n o ho).made with h1 | ⟨r, h1⟩
    · rw [h1.1] at h
      obtain ⟨a, b, c⟩ := Tr.made_lt n (by omega) h
      exact ⟨by omega, b, by rw [h1.2]; exact c⟩
    · rw [h1.1, List.mem_cons] at h
      rcases h with rfl | h
      · exact ⟨by simp, t.nid0 (by omega), by rw [h1.2]; simp⟩
      · obtain ⟨a, b, c⟩ := Tr.made_lt n (by omega) h
        exact ⟨by omega, b, by rw [h1.2]; omega⟩
theorem Tr.made_split {p : PE} {n : Nat} : ∀ k, n + k ≤ ops.size → p ∈ (S (n + k)).made → p ∈ (S n).made ∨ (n ≤ p.i ∧ (S n).nid ≤ p.id)
  | 0, _, h => .inl h
  | k + 1, hk, h => by
    obtain ⟨o, ho⟩ := at_op (ops := ops) (i := n + k) (by omega)
    rw [← Nat.add_assoc] at h
    rcases (t.step _ o ho).made with h1 | ⟨r, h1⟩
    · rw [h1.1] at h; exact Tr.made_split k (by omega) h
    · rw [h1.1, List.mem_cons] at h
      rcases h with rfl | h
      · exact .inr ⟨by simp, t.nid_le k (by omega)⟩
      · exact Tr.made_split k (by omega) h
theorem Tr.made_sub {p : PE} {n : Nat} : ∀ k, n + k ≤ ops.size → p ∈ (S n).made → p ∈ (S (n + k)).made
  | 0, _, h => h
  | k + 1, hk, h => by
    obtain ⟨o, ho⟩ := at_op (ops := ops) (i := n + k) (by omega)
    have ih := Tr.made_sub k (by omega) h
    rw [← Nat.add_assoc]
    rcases (t.step _ o ho).made with h1 | ⟨r, h1⟩
    · rw [h1.1]; exact ih
    · rw [h1.1]; exact List.mem_cons_of_mem _ ih
theorem Tr.made_top {p : PE} {n : Nat} (hn : n ≤ ops.size) (h : p ∈ (S n).made) : p ∈ (S ops.size).made := by
  have := t.made_sub (n := n) (ops.size - n) (by omega) h
  rwa [show n + (ops.size - n) = ops.size by omega] at this
theorem Tr.made_or {p : PE} {n : Nat} (hn : n ≤ ops.size) (h : p ∈ (S ops.size).made) : p ∈ (S n).made ∨ (n ≤ p.i ∧ (S n).nid ≤ p.id) :=
  t.made_split (n := n) (ops.size - n) (by omega) (by rwa [show n + (ops.size - n) = ops.size by omega])
theorem Tr.qs_sub {q : QE} {n : Nat} : ∀ k, n + k ≤ ops.size → q ∈ (S n).qs → q ∈ (S (n + k)).qs
  | 0, _, h => h
  | k + 1, hk, h => by
    obtain ⟨o, ho⟩ := at_op (ops := ops) (i := n + k) (by omega)
    exact (t.step _ o ho).qs q (Tr.qs_sub k (by omega) h)

/-! ### what is read at another moment -/
omit t in
theorem sameAt_spec {m : Nat} {made : List PE} {o : Oper} {g : F} {v : Value} {h : H} : ∀ hs, sameAt P m made o g v hs = true → h ∈ hs → xqAt P m made o g h = some v
  | [], _, hm => by simp at hm
  | h1 :: hs, hx, hm => by
    simp only [sameAt, Bool.and_eq_true] at hx
    rcases List.mem_cons.1 hm with rfl | hm
    · have h2 := hx.1
      split at h2
      · rename_i u hu; rw [hu, veq_eq 7 v u h2]
      · cases h2
    · exact sameAt_spec hs hx.2 hm
omit t in
theorem qsOk_spec {m : Nat} {made : List PE} {h : H} {q : QE} : ∀ qs, qsOk P m made h qs = true → q ∈ qs → m.testBit q.i = true ∨ xqAt P q.m made q.o q.g h = some q.v
  | [], _, hm => by simp at hm
  | q1 :: qs, hx, hm => by
    simp only [qsOk, Bool.and_eq_true, Bool.or_eq_true] at hx
    rcases List.mem_cons.1 hm with rfl | hm
    · rcases hx.1 with h1 | h2
      · exact .inl h1
      · split at h2
        · rename_i u hu; exact .inr (by rw [hu, veq_eq 7 _ u h2])
        · cases h2
    · exact qsOk_spec qs hx.2 hm
omit t in
theorem freeW_gt {m : Nat} : ∀ (ws : List Nat) (r : Nat), (∀ x ∈ ws.take (r + 1), m.testBit x = false) → r < ws.length → r < freeW m ws
  | [], r, _, h => by simp at h
  | j :: js, r, h, hl => by
    have hj := h j (by simp)
    simp only [freeW, hj, cond_false]
    cases r with
    | zero => omega
    | succ r =>
      have := freeW_gt js r (fun x hx => h x (by simp [hx])) (by simpa using hl)
      omega

theorem Tr.old_at {q : Nat} : ∀ k, q + k ≤ ops.size → (S (q + k)).h = (S q).h ∨ ∃ r, (S (q + k)).old[r]? = some (S q).h ∧ (∀ x ∈ (S (q + k)).ws.take (r + 1), q ≤ x) ∧ r < (S (q + k)).ws.length
  | 0, _ => .inl rfl
  | k + 1, hk => by
    obtain ⟨o, ho⟩ := at_op (ops := ops) (i := q + k) (by omega)
    have ih := Tr.old_at (q := q) k (by omega)
    rw [← Nat.add_assoc]
    by_cases hw : Wr S (q + k)
    · have h1 : (S (q + k + 1)).ws = (q + k) :: (S (q + k)).ws := hw
      have h2 := (t.is_wr ho hw).1
      rw [h1, h2]
      rcases ih with h | ⟨r, e1, e2, e3⟩
      · exact .inr ⟨0, by simp [h], by simp, by simp⟩
      · refine .inr ⟨r + 1, by simpa using e1, fun x hx => ?_, by simpa using e3⟩
        rw [List.take_succ_cons, List.mem_cons] at hx
        rcases hx with rfl | hx
        · omega
        · exact e2 x hx
    · obtain ⟨h1, h2, h3⟩ := t.not_wr ho hw
      rw [h1, h2, h3]
      exact ih

theorem Tr.read_on {i : Nat} {v : Value} {o : Oper} (hx : xqAt P (ms i) (S i).made o (S i).f (S i).h = some v) (hnw : ¬ Wr S i) (hq : (⟨i, ms i, o, (S i).f, v⟩ : QE) ∈ (S (i + 1)).qs) : ∀ k, i + k ≤ ops.size → (∀ j, i < j → j < i + k → Wr S j → (ms j).testBit i = false) →
    ∃ made, (∀ p ∈ made, p ∈ (S ops.size).made) ∧ xqAt P (ms i) made o (S i).f (S (i + k)).h = some v
  | 0, hk, _ => ⟨(S i).made, fun p hp => t.made_top (by omega) hp, hx⟩
  | k + 1, hk, hn => by
    obtain ⟨p, hp⟩ := at_op (ops := ops) (i := i + k) (by omega)
    by_cases hw : Wr S (i + k)
    · cases k with
      | zero => exact absurd hw hnw
      | succ k =>
        have h1 := (t.is_wr hp hw).2.2
        have h2 := t.qs_sub (n := i + 1) k (by omega) hq
        rw [show i + 1 + k = i + (k + 1) by omega] at h2
        rcases qsOk_spec _ h1 h2 with h3 | h3
        · rw [hn (i + (k + 1)) (by omega) (by omega) hw] at h3; cases h3
        · exact ⟨(S (i + (k + 1))).made, fun p hp => t.made_top (by omega) hp, h3⟩
    · rw [← Nat.add_assoc, (t.not_wr hp hw).2.1]
      exact Tr.read_on hx hnw hq k (by omega) fun j a b c => hn j a (by omega) c
end

theorem activate_inv {m : Nat} : ∀ (ps : List PE) (h g : H), activate m ps h = some g → g.next = h.next ∧ (∀ k o, h.heap.get k = some o → g.heap.get k = some o) ∧
    ∀ k o, g.heap.get k = some o → h.heap.get k = some o ∨ (h.heap.get k = none ∧ ∃ p ∈ ps, m.testBit p.i = true ∧ p.id = k ∧ p.r = o)
  | [], h, g, e => by
    simp only [activate, Option.some.injEq] at e; subst e
    exact ⟨rfl, fun _ _ h => h, fun _ _ h => .inl h⟩
  | p :: ps, h, g, e => by
    have go : ∀ h1, activate m ps h1 = some g → h1 = h → g.next = h.next ∧ (∀ k o, h.heap.get k = some o → g.heap.get k = some o) ∧
        ∀ k o, g.heap.get k = some o → h.heap.get k = some o ∨ (h.heap.get k = none ∧ ∃ p' ∈ p :: ps, m.testBit p'.i = true ∧ p'.id = k ∧ p'.r = o) := fun h1 e1 e2 => by
      subst e2
      obtain ⟨a, b, c⟩ := activate_inv ps h1 g e1
      refine ⟨a, b, fun k o hk => (c k o hk).imp id ?_⟩
      rintro ⟨d1, p', d2, d3⟩
      exact ⟨d1, p', List.mem_cons_of_mem _ d2, d3⟩
    simp only [activate] at e
    cases hb : m.testBit p.i with
    | false => rw [hb] at e; exact go h e rfl
    | true =>
      rw [hb] at e
      simp only [cond_true] at e
      split at e
      · exact go h e rfl
      · rename_i hn
        split at e
        · rename_i h1 hs
          obtain ⟨s1, s2, s3⟩ := H.set_inv hs
          obtain ⟨a, b, c⟩ := activate_inv ps h1 g e
          refine ⟨a.trans s1, fun k o hk => b k o ?_, fun k o hk => ?_⟩
          · by_cases hkp : k = p.id
            · subst hkp; rw [hn] at hk; cases hk
            · rw [s3 k hkp]; exact hk
          · by_cases hkp : k = p.id
            · subst hkp
              refine .inr ⟨hn, p, List.mem_cons_self, hb, rfl, ?_⟩
              have := b _ _ s2
              rw [this] at hk; injection hk
            · rcases c k o hk with c1 | ⟨c1, p', c2, c3⟩
              · rw [s3 k hkp] at c1; exact .inl c1
              · rw [s3 k hkp] at c1; exact .inr ⟨c1, p', List.mem_cons_of_mem _ c2, c3⟩
        · cases e

theorem activateAll_inv : ∀ (ps : List PE) (h g : H), activateAll ps h = some g → g.next = h.next ∧ (∀ k o, h.heap.get k = some o → g.heap.get k = some o) ∧
    ∀ k o, g.heap.get k = some o → h.heap.get k = some o ∨ (h.heap.get k = none ∧ ∃ p ∈ ps, p.id = k ∧ p.r = o)
  | [], h, g, e => by
    simp only [activateAll, Option.some.injEq] at e; subst e
    exact ⟨rfl, fun _ _ h => h, fun _ _ h => .inl h⟩
  | p :: ps, h, g, e => by
    simp only [activateAll] at e
    split at e
    · obtain ⟨a, b, c⟩ := activateAll_inv ps h g e
      refine ⟨a, b, fun k o hk => (c k o hk).imp id ?_⟩
      rintro ⟨d1, p', d2, d3⟩
      exact ⟨d1, p', List.mem_cons_of_mem _ d2, d3⟩
    · rename_i hn
      split at e
      · rename_i h1 hs
        obtain ⟨s1, s2, s3⟩ := H.set_inv hs
        obtain ⟨a, b, c⟩ := activateAll_inv ps h1 g e
        refine ⟨a.trans s1, fun k o hk => b k o ?_, fun k o hk => ?_⟩
        · by_cases hkp : k = p.id
          · subst hkp; rw [hn] at hk; cases hk
          · rw [s3 k hkp]; exact hk
        · by_cases hkp : k = p.id
          · subst hkp
            refine .inr ⟨hn, p, List.mem_cons_self, rfl, ?_⟩
            have := b _ _ s2
            rw [this] at hk; injection hk
          · rcases c k o hk with c1 | ⟨c1, p', c2, c3⟩
            · rw [s3 k hkp] at c1; exact .inl c1
            · rw [s3 k hkp] at c1; exact .inr ⟨c1, p', List.mem_cons_of_mem _ c2, c3⟩
      · cases e

theorem xq_still {P : Program} {o : Oper} {g : Nat → Value} {h h' : H} (hh : readsHeap o.op = false) : xq P o g h = xq P o g h' := by
  obtain ⟨dst, op, type, pos, after, guard⟩ := o
  cases op <;> first
    | rfl
    | (simp [readsHeap] at hh; done)
end Go.Proofs.YtflnpcgnenhogaaDoor.ev

namespace Go.Proofs.YtflnpcgnenhogaaDoor.ev
open Go Go.RowKit

structure Inv (B : Nat) (ops : Array Oper) (S : Nat → D) (f0 : F) (h0 : H) (top : Nat) (σ0 : Sg) (w0 : World) (L : Nat → Bool) (q : Nat) (σ : Sg) (hp : Nat → Option AO) (a : Act) (w : World) : Prop where
  closed : Closed ops L
  qle : q ≤ ops.size
  cut : ∀ j, j < ops.size → Wr S j → (L j = true ↔ j < q)
  sub : ∀ k o, (S q).h.heap.get k = some o → hp k = some o
  has : ∀ p ∈ (S ops.size).made, L p.i = true → hp p.id = some p.r ∨ ∃ o, (S q).h.heap.get p.id = some o
  hasnt : ∀ p ∈ (S ops.size).made, L p.i = false → hp p.id = none ∧ σ p.id = none
  st : Step B σ0 h0.heap.get h0.next w0 σ hp (S q).h.next w
  nx : h0.next + top ≤ (S q).h.next
  keepS : ∀ k o, h0.heap.get k = some o → ∃ o', (S q).h.heap.get k = some o'
  size : a.tmps.size = f0.sz
  slot : ∀ x, VR σ (Fr S ops L ops.size x) (a.tmps.getD x undef)
  ds : DR σ0 f0.ds a.defers

section
variable {B : Nat} {P : Program} {tab : Tab} {rec : Code → F → H → Option R} {ops : Array Oper} {ms : Nat → Nat} {S : Nat → D} {f0 : F} {h0 : H} {top : Nat} {σ0 : Sg} {w0 : World} {L : Nat → Bool} {q : Nat} {σ : Sg} {hp : Nat → Option AO} {a : Act} {w : World}

theorem upd_closed (hc : Closed ops L) {i : Nat} {o : Oper} (ho : ops[i]? = some o) (he : ∀ e ∈ o.after, Region.binds .any e = true → L e.on = true) : Closed ops (upd L i) := by
  intro j p hj hp e h1 h2
  have : L e.on = true := by
    unfold upd at hj
    split at hj
    · rename_i hji; subst hji
      rw [ho] at hp; injection hp with hp; subst hp
      exact he e h1 h2
    · exact hc j p hj hp e h1 h2
  unfold upd
  split <;> first | rfl | exact this

theorem edges_of (hc : Closed ops L) {j : Nat} {o : Oper} (hl : L j = true) (ho : ops[j]? = some o) : ∀ e ∈ o.after, Region.binds .any e = true → L e.on = true := hc j o hl ho

/-- a slot that operation i looks at -/
theorem Inv.looks (t : Tr P tab rec ops ms S f0 h0 top) (v : Inv B ops S f0 h0 top σ0 w0 L q σ hp a w) {i : Nat} {o : Oper} (ho : ops[i]? = some o) (hL : L i = false) (he : ∀ e ∈ o.after, Region.binds .any e = true → L e.on = true) {x : Tmp} (hx : x ∈ o.looksAt ops) :
    VR σ ((S i).f.get x) (a.tmps.getD x undef) := by
  have hi := op_lt ho
  have h1 := t.fr_eq (L := L) (i := i) (x := x) (by omega) (fun j hj hd => ?_) ops.size (Nat.le_refl _)
  · rw [show min ops.size i = i by omega] at h1
    rw [← h1]
    exact v.slot x
  · obtain ⟨oj, hoj⟩ := at_op hj
    have hdj : oj.dst = some x := by simpa [dstOf, hoj] using hd
    rcases Nat.lt_trichotomy j i with hlt | rfl | hgt
    · refine ⟨fun _ => hlt, fun _ => ?_⟩
      rcases t.fore.pair j i oj o hlt hoj ho with h2 | h2
      · exact absurd hx ((Oper.apart_spec h2).1 x hdj)
      · exact t.mask_in v.closed i o ho he h2
    · rw [hL]; simp
    · refine ⟨fun hl => ?_, fun h => absurd h (by omega)⟩
      rcases t.fore.pair i j o oj hgt ho hoj with h2 | h2
      · exact absurd hx ((Oper.apart_spec h2).2.2 x hdj)
      · have := t.mask_in v.closed j oj hoj (edges_of v.closed hl hoj) h2
        rw [hL] at this; cases this

theorem Inv.vo (t : Tr P tab rec ops ms S f0 h0 top) (v : Inv B ops S f0 h0 top σ0 w0 L q σ hp a w) {i : Nat} {o : Oper} (ho : ops[i]? = some o) (hL : L i = false) (he : ∀ e ∈ o.after, Region.binds .any e = true → L e.on = true) :
    ∀ x ∈ o.op.operands.toList, VO σ (S i).f.get a x := by
  intro x hx
  refine VO.of v.st.hr.glob x fun y hy => ?_
  subst hy
  refine v.looks t ho hL he ?_
  unfold Oper.looksAt
  exact List.mem_append_left _ (List.mem_filterMap.2 ⟨.tmp y, hx, rfl⟩)

theorem Inv.wanted (t : Tr P tab rec ops ms S f0 h0 top) (v : Inv B ops S f0 h0 top σ0 w0 L q σ hp a w) {i : Nat} {o : Oper} (ho : ops[i]? = some o) (hL : L i = false) (he : ∀ e ∈ o.after, Region.binds .any e = true → L e.on = true) :
    wantedA ops o (S i).f.get = Region.wanted o (yielded ops a.tmps) := by
  refine wantedA_eq fun j want p d hg hj hd => v.looks t ho hL he ?_
  unfold Oper.looksAt
  refine List.mem_append_right _ ?_
  rw [hg]
  simp [hj, hd]

/-- the slots, once operation i has put its own -/
theorem Inv.slots (t : Tr P tab rec ops ms S f0 h0 top) (v : Inv B ops S f0 h0 top σ0 w0 L q σ hp a w) {i : Nat} {o : Oper} (ho : ops[i]? = some o) (hL : L i = false) {σ' : Sg} (hle : σ.le σ') {x u : Value} (hput : (S i).f.put o.dst x = some (S (i + 1)).f) (hu : VR σ' x u) :
    (a.put o.dst u).tmps.size = f0.sz ∧ ∀ y, VR σ' (Fr S ops (upd L i) ops.size y) ((a.put o.dst u).tmps.getD y undef) := by
  have hi := op_lt ho
  obtain ⟨p1, _, _, p4, p5⟩ := put_inv hput
  have hsz : (S i).f.sz = f0.sz := (t.same i (by omega)).1
  have hd : ∀ d, o.dst = some d → d < a.tmps.size := fun d hd => by rw [v.size, ← hsz]; exact p4 d hd
  refine ⟨?_, fun y => ?_⟩
  · rw [← v.size]
    cases o.dst <;> simp [Act.put]
  · rw [getD_put a o.dst u hd y, Fr_upd (L := L) (i := i) (x := y) hL (fun j hij hl hdi hdj => ?_) ops.size]
    · have hdo : dstOf ops i = o.dst := by simp [dstOf, ho]
      rw [hdo]
      by_cases hy : o.dst = some y
      · rw [if_pos ⟨hi, hy⟩, if_pos hy, p5 y, if_pos hy]
        exact hu
      · rw [if_neg (fun h => hy h.2), if_neg hy]
        exact (v.slot y).mono hle
    · rcases Nat.lt_or_ge j ops.size with hjs | hjs
      · obtain ⟨oj, hoj⟩ := at_op hjs
        rcases t.fore.pair i j o oj hij ho hoj with h2 | h2
        · have h3 : o.dst = some y := by simpa [dstOf, ho] using hdi
          have h4 : oj.dst = some y := by simpa [dstOf, hoj] using hdj
          exact (Oper.apart_spec h2).2.1 y h3 h4
        · have := t.mask_in v.closed j oj hoj (edges_of v.closed hl hoj) h2
          rw [hL] at this; cases this
      · simp [dstOf, Array.getElem?_eq_none hjs] at hdj

theorem Inv.ds_put (v : Inv B ops S f0 h0 top σ0 w0 L q σ hp a w) (dst : Option Tmp) (u : Value) : DR σ0 f0.ds (a.put dst u).defers := by
  have := v.ds
  cases dst <;> exact this

/-- the heap at i is the one that stands -/
theorem Inv.same_h (t : Tr P tab rec ops ms S f0 h0 top) (v : Inv B ops S f0 h0 top σ0 w0 L q σ hp a w) {i : Nat} {o : Oper} (ho : ops[i]? = some o) (hL : L i = false) (he : ∀ e ∈ o.after, Region.binds .any e = true → L e.on = true) (hw : Wr S i) : (S q).h = (S i).h := by
  have hi := op_lt ho
  have hbelow : ∀ j, j < i → Wr S j → L j = true := fun j hj hwj => t.wr_in v.closed hwj i o ho he hw hj
  have habove : ∀ j, i ≤ j → j < ops.size → Wr S j → L j = false := fun j hij hjs hwj => by
    rcases Nat.lt_or_ge i j with hlt | hge
    · cases hl : L j with
      | false => rfl
      | true =>
        obtain ⟨oj, hoj⟩ := at_op hjs
        have := t.wr_in v.closed hw j oj hoj (edges_of v.closed hl hoj) hwj hlt
        rw [hL] at this; cases this
    · have : j = i := by omega
      subst this; exact hL
  rcases Nat.le_total q i with hqi | hqi
  · have := t.h_same (n := q) (i - q) (by omega) fun j h1 h2 hwj => by
      have := (v.cut j (by omega) hwj).1 (hbelow j (by omega) hwj)
      omega
    rw [show q + (i - q) = i by omega] at this
    exact this.symm
  · have hq := v.qle
    have := t.h_same (n := i) (q - i) (by omega) fun j h1 h2 hwj => by
      have h3 := (v.cut j (by omega) hwj).2 (by omega)
      rw [habove j h1 (by omega) hwj] at h3; cases h3
    rw [show i + (q - i) = q by omega] at this
    exact this

/-- what is laid for a reader is there -/
theorem Inv.act_sub (v : Inv B ops S f0 h0 top σ0 w0 L q σ hp a w) {m : Nat} {made : List PE} {g : H} (hm : ∀ b, m.testBit b = true → L b = true) (hmade : ∀ p ∈ made, p ∈ (S ops.size).made) (hact : activate m made (S q).h = some g) :
    ∀ k o, g.heap.get k = some o → hp k = some o := by
  intro k o hk
  obtain ⟨_, _, h3⟩ := activate_inv _ _ _ hact
  rcases h3 k o hk with h | ⟨h1, p, h2, h4, h5, h6⟩
  · exact v.sub k o h
  · rcases v.has p (hmade p h2) (hm _ h4) with h7 | ⟨o', h7⟩
    · rw [← h5, ← h6]; exact h7
    · rw [h5, h1] at h7; cases h7

theorem Inv.mask (t : Tr P tab rec ops ms S f0 h0 top) (v : Inv B ops S f0 h0 top σ0 w0 L q σ hp a w) {i : Nat} {o : Oper} (ho : ops[i]? = some o) (he : ∀ e ∈ o.after, Region.binds .any e = true → L e.on = true) : ∀ b, (ms i).testBit b = true → L b = true :=
  fun _ hb => t.mask_in v.closed i o ho he hb

/-- an operation that leaves the memory -/
theorem Inv.stay (t : Tr P tab rec ops ms S f0 h0 top) (v : Inv B ops S f0 h0 top σ0 w0 L q σ hp a w) {i : Nat} {o : Oper} (ho : ops[i]? = some o) (hL : L i = false) (he : ∀ e ∈ o.after, Region.binds .any e = true → L e.on = true) {x u : Value} (hput : (S i).f.put o.dst x = some (S (i + 1)).f) (hu : VR σ x u)
    (hw : ¬ Wr S i) (hmade : (S (i + 1)).made = (S i).made) : Inv B ops S f0 h0 top σ0 w0 (upd L i) q σ hp (a.put o.dst u) w := by
  have hi := op_lt ho
  obtain ⟨s1, s2⟩ := v.slots t ho hL (Sg.le.refl σ) hput hu
  have hne : ∀ p ∈ (S ops.size).made, p.i ≠ i := fun p hp hpi => by
    rcases t.made_or (n := i + 1) (by omega) hp with h1 | h1
    · rw [hmade] at h1
      have := (t.made_lt i (by omega) h1).1
      omega
    · omega
  refine ⟨upd_closed v.closed ho he, v.qle, fun j hj hwj => ?_, v.sub, fun p hp hl => v.has p hp (by simpa [upd, hne p hp] using hl), fun p hp hl => v.hasnt p hp (by simpa [upd, hne p hp] using hl), v.st, v.nx, v.keepS, s1, s2, v.ds_put _ _⟩
  have hji : j ≠ i := fun h => hw (h ▸ hwj)
  simp only [upd, hji, if_false]
  exact v.cut j hj hwj

theorem Inv.op (t : Tr P tab rec ops ms S f0 h0 top) (ht : TabOk P tab) (hrec : RecOk P rec) (v : Inv B ops S f0 h0 top σ0 w0 L q σ hp a w) {r : Option Nat} {n : Nat} {i : Nat} {o : Oper} (ho : ops[i]? = some o) (hL : L i = false) (he : ∀ e ∈ o.after, Region.binds .any e = true → L e.on = true)
    {K : Act → World → Prop} {Q : Exit → Act → World → Prop} (hK : ∀ a' w' q' σ' hp', Inv B ops S f0 h0 top σ0 w0 (upd L i) q' σ' hp' a' w' → K a' w') : wpOpIn (FW r) n P ops Q i K a w := by
  have hi := op_lt ho
  unfold wpOpIn
  simp only [ho]
  rw [← v.wanted t ho hL he]
  have hvo := v.vo t ho hL he
  have hmask := v.mask t ho he
  have s := t.step i o ho
  generalize hd' : S (i + 1) = d' at s
  cases s with
  | off hw hput =>
    have hput' : (S i).f.put o.dst undef = some (S (i + 1)).f := by rw [hd']; exact hput
    simp only [hw, Bool.false_eq_true, if_false]
    exact ⟨about_FW w, hK _ _ _ _ _ (v.stay t ho hL he hput' VR.undef (fun h => by unfold Wr at h; rw [hd'] at h; exact cons_ne _ _ h) (by rw [hd']))⟩
  | pure hw hk hh hx hput =>
    rename_i x f'
    have hput' : (S i).f.put o.dst x = some (S (i + 1)).f := by rw [hd']; exact hput
    simp only [hw, if_true]
    rw [xq_still (h' := (S q).h) hh] at hx
    exact opQ_sound (h := (S q).h) (v.st.hr.sub v.sub) hk hvo hx fun u hu =>
      hK _ _ _ _ _ (v.stay t ho hL he hput' hu (fun h => by unfold Wr at h; rw [hd'] at h; exact cons_ne _ _ h) (by rw [hd']))
  | read hw hk hx hput hs =>
    rename_i x f'
    have hput' : (S i).f.put o.dst x = some (S (i + 1)).f := by rw [hd']; exact hput
    have hnw : ¬ Wr S i := fun h => by unfold Wr at h; rw [hd'] at h; exact cons_ne _ _ h
    simp only [hw, if_true]
    have hread : ∃ made, (∀ p ∈ made, p ∈ (S ops.size).made) ∧ xqAt P (ms i) made o (S i).f (S q).h = some x := by
      rcases Nat.le_total q i with hqi | hqi
      · refine ⟨(S i).made, fun p hp => t.made_top (by omega) hp, ?_⟩
        have h1 := t.old_at (q := q) (i - q) (by omega)
        rw [show q + (i - q) = i by omega] at h1
        rcases h1 with h1 | ⟨k, h1, h2, h3⟩
        · rw [← h1]; exact hx
        · have h4 : k < freeW (ms i) (S i).ws := by
            refine freeW_gt _ _ (fun y hy => ?_) h3
            cases hb : (ms i).testBit y with
            | false => rfl
            | true =>
              have h5 := hmask y hb
              have h6 := (t.mem_ws (j := y) i (by omega)).1 (List.mem_of_mem_take hy)
              have h7 := (v.cut y (by omega) h6.2).1 h5
              have h8 := h2 y hy
              omega
          refine sameAt_spec _ hs (List.mem_of_getElem? (i := k) ?_)
          rw [List.getElem?_take_of_lt h4]
          exact h1
      · have hq := v.qle
        have := t.read_on (i := i) (v := x) (o := o) hx hnw (by rw [hd']; simp) (q - i) (by omega) fun j h1 h2 hwj => by
          cases hb : (ms j).testBit i with
          | false => rfl
          | true =>
            have hl := (v.cut j (by omega) hwj).2 (by omega)
            obtain ⟨oj, hoj⟩ := at_op (ops := ops) (i := j) (by omega)
            have := t.mask_in v.closed j oj hoj (edges_of v.closed hl hoj) hb
            rw [hL] at this; cases this
        rwa [show i + (q - i) = q by omega] at this
    obtain ⟨made, hm1, hm2⟩ := hread
    unfold xqAt at hm2
    split at hm2
    · rename_i g hact
      exact opQ_sound (h := g) (v.st.hr.sub (v.act_sub hmask hm1 hact)) hk hvo hm2 fun u hu =>
        hK _ _ _ _ _ (v.stay t ho hL he hput' hu hnw (by rw [hd']))
    · cases hm2
  | make hw hk hx hput =>
    rename_i x rw0 f'
    have hput' : (S i).f.put o.dst x = some (S (i + 1)).f := by rw [hd']; exact hput
    have hnw : ¬ Wr S i := fun h => by unfold Wr at h; rw [hd'] at h; exact cons_ne _ _ h
    simp only [hw, if_true]
    have hnew : (⟨i, (S i).nid, rw0⟩ : PE) ∈ (S ops.size).made := t.made_top (n := i + 1) (by omega) (by rw [hd']; simp)
    obtain ⟨n1, n2⟩ := v.hasnt _ hnew hL
    simp only at n1 n2
    have hid1 : h0.next ≤ (S i).nid := t.nid0 (by omega)
    have hid2 : (S i).nid < (S q).h.next := by
      have h1 := t.nid_le (n := i + 1) (ops.size - (i + 1)) (by omega)
      rw [show i + 1 + (ops.size - (i + 1)) = ops.size by omega] at h1
      have h2 : (S (i + 1)).nid = (S i).nid + 1 := by rw [hd']
      have h3 := t.nid
      have h4 := v.nx
      omega
    have hother : ∀ p ∈ (S ops.size).made, p.i ≠ i → p.id ≠ (S i).nid := fun p hp hpi => by
      rcases t.made_or (n := i + 1) (by omega) hp with h1 | h1
      · rw [hd'] at h1
        simp only [List.mem_cons] at h1
        rcases h1 with rfl | h1
        · exact absurd rfl hpi
        · have := (t.made_lt i (by omega) h1).2.2
          omega
      · have h2 : (S (i + 1)).nid = (S i).nid + 1 := by rw [hd']
        omega
    have hself : ∀ p ∈ (S ops.size).made, p.i = i → p = ⟨i, (S i).nid, rw0⟩ := fun p hp hpi => by
      rcases t.made_or (n := i + 1) (by omega) hp with h1 | h1
      · rw [hd'] at h1
        simp only [List.mem_cons] at h1
        rcases h1 with rfl | h1
        · rfl
        · have := (t.made_lt i (by omega) h1).1
          omega
      · omega
    refine opM_sound (σ := σ) hk hvo hx fun u ob hu => ?_
    have hle : σ.le (σ.set (S i).nid w.heap.size 0) := Sg.set_le _ _ n2
    obtain ⟨c1, c2⟩ := hu (σ.set (S i).nid w.heap.size 0) 0 hle (Sg.set_same _ _ _ _)
    obtain ⟨s1, s2⟩ := v.slots t ho hL hle hput' c1
    refine hK _ _ q (σ.set (S i).nid w.heap.size 0) (fun k => if k = (S i).nid then some rw0 else hp k) ⟨upd_closed v.closed ho he, v.qle, fun j hj hwj => ?_, fun k ok hk => ?_, fun p hp hl => ?_, fun p hp hl => ?_, v.st.allocAt hid1 hid2 n1 n2 c2, v.nx, v.keepS, s1, s2, v.ds_put _ _⟩
    · have hji : j ≠ i := fun h => hnw (h ▸ hwj)
      simp only [upd, hji, if_false]
      exact v.cut j hj hwj
    · have h1 := v.sub k ok hk
      rw [if_neg (fun h => by rw [h, n1] at h1; cases h1)]
      exact h1
    · by_cases hpi : p.i = i
      · rw [hself p hp hpi]
        exact .inl (if_pos rfl)
      · simp only [upd, hpi, if_false] at hl
        rcases v.has p hp hl with h1 | h1
        · exact .inl (by rw [if_neg (hother p hp hpi)]; exact h1)
        · exact .inr h1
    · by_cases hpi : p.i = i
      · simp [upd, hpi] at hl
      · simp only [upd, hpi, if_false] at hl
        obtain ⟨h1, h2⟩ := v.hasnt p hp hl
        exact ⟨by rw [if_neg (hother p hp hpi)]; exact h1, by rw [Sg.set_other _ _ _ (hother p hp hpi)]; exact h2⟩
  | write hw hl hact hx hput hq =>
    rename_i x g h' f'
    have hput' : (S i).f.put o.dst x = some (S (i + 1)).f := by rw [hd']; exact hput
    have hwi : Wr S i := by unfold Wr; rw [hd']
    have hmd : (S (i + 1)).made = (S i).made := by rw [hd']
    have hh' : (S (i + 1)).h = h' := by rw [hd']
    simp only [hw, if_true]
    have hsame := v.same_h t ho hL he hwi
    rw [← hsame] at hact
    have hgsub := v.act_sub hmask (fun p hp => t.made_top (n := i) (by omega) hp) hact
    obtain ⟨g1, g2, g3⟩ := activate_inv _ _ _ hact
    have hne : ∀ p ∈ (S ops.size).made, p.i ≠ i := fun p hp hpi => by
      rcases t.made_or (n := i + 1) (by omega) hp with h1 | h1
      · rw [hmd] at h1
        have := (t.made_lt i (by omega) h1).1
        omega
      · omega
    have hidlt : ∀ p ∈ (S ops.size).made, p.id < (S q).h.next := fun p hp => by
      have := (t.made_lt ops.size (Nat.le_refl _) hp).2.2
      have h3 := t.nid
      have h4 := v.nx
      omega
    have hst0 := v.st
    rw [← g1] at hst0 hidlt
    have hnx := v.nx
    rw [← g1] at hnx
    refine opW_sound (h := g) ht hrec (hst0.hr.sub hgsub) hvo hx fun u σ' w' hu hst => ?_
    have hfr := Step.frame hst0.hr hgsub hst
    have hle := hfr.le hst0.hr
    obtain ⟨s1, s2⟩ := v.slots t ho hL hle hput' hu
    refine hK _ _ (i + 1) σ' _ ⟨upd_closed v.closed ho he, by omega, fun j hj hwj => ?_, fun k ok hk => ?_, fun p hp hl => ?_, fun p hp hl => ?_, by rw [hh']; exact hst0.trans hfr, by rw [hh']; exact Nat.le_trans hnx hst.nxle, fun k ok hk => ?_, s1, s2, v.ds_put _ _⟩
    · by_cases hji : j = i
      · subst hji; simp [upd]
      · simp only [upd, hji, if_false]
        rcases Nat.lt_or_ge j i with hlt | hge
        · exact ⟨fun _ => by omega, fun _ => t.wr_in v.closed hwj i o ho he hwi hlt⟩
        · refine ⟨fun hlj => ?_, fun h => absurd h (by omega)⟩
          obtain ⟨oj, hoj⟩ := at_op hj
          have := t.wr_in v.closed hwi j oj hoj (edges_of v.closed hlj hoj) hwj (by omega)
          rw [hL] at this; cases this
    · rw [hh'] at hk
      simp only [hk]
    · rw [hh']
      simp only [upd, hne p hp, if_false] at hl
      cases hk : h'.heap.get p.id with
      | some o' => exact .inr ⟨o', rfl⟩
      | none =>
        rcases v.has p hp hl with h1 | ⟨o', h1⟩
        · exact .inl (by simpa [hk] using h1)
        · obtain ⟨_, h2⟩ := hst.keepS p.id o' (g2 _ _ h1)
          rw [hk] at h2; cases h2
    · simp only [upd, hne p hp, if_false] at hl
      obtain ⟨h1, h2⟩ := v.hasnt p hp hl
      have h3 := hidlt p hp
      exact ⟨hfr.keepN p.id h3 h1, by rw [hfr.keep p.id h3]; exact h2⟩
    · rw [hh']
      obtain ⟨o', h1⟩ := v.keepS k ok hk
      exact hst.keepS k o' (g2 _ _ h1)

theorem getD_false {listed : Array Bool} {j : Nat} (h : listed.getD j true = false) : j < listed.size ∧ listed.getD j false = false := by
  rcases Nat.lt_or_ge j listed.size with h' | h'
  · simp [h'] at h ⊢; exact h
  · simp [Array.getElem?_eq_none h'] at h
theorem getD_true {listed : Array Bool} {j : Nat} (hj : j < listed.size) (h : listed.getD j false = false) : listed.getD j true = false := by
  simp [hj] at h ⊢; exact h
theorem upd_listed {listed : Array Bool} {i : Nat} (hi : i < listed.size) : (fun j => (listed.setIfInBounds i true).getD j false) = upd (fun j => listed.getD j false) i := by
  funext j
  unfold upd
  by_cases hj : j = i
  · subst hj; simp [hi]
  · simp only [hj, if_false]
    exact getD_set_ne false (fun h => hj h.symm)

theorem draw_end (t : Tr P tab rec ops ms S f0 h0 top) {listed : Array Bool} (hs : listed.size = ops.size) (hr : Region.ready .any ops listed = []) : ∀ j, j < ops.size → listed.getD j false = true := by
  intro j
  induction j using Nat.strongRecOn with
  | ind j ih =>
    intro hj
    cases hl : listed.getD j false with
    | true => rfl
    | false =>
      obtain ⟨o, ho⟩ := at_op hj
      have : j ∈ Region.ready .any ops listed := mem_ready.2 ⟨getD_true (by omega) hl, o, ho, fun e he hb => by
        have := t.fore.edge j o ho e he hb
        exact ih e.on this (by omega)⟩
      rw [hr] at this; cases this

theorem draw_any (t : Tr P tab rec ops ms S f0 h0 top) (ht : TabOk P tab) (hrec : RecOk P rec) {r : Option Nat} {n : Nat} {Q : Exit → Act → World → Prop}
    (hQ : ∀ L q σ hp a w, (∀ j, j < ops.size → L j = true) → Inv B ops S f0 h0 top σ0 w0 L q σ hp a w → Q .normal a w) :
    ∀ (fuel : Nat) (U : List Nat) (listed : Array Bool) (q : Nat) (σ : Sg) (hp : Nat → Option AO) (a : Act) (w : World), listed.size = ops.size → (∀ j, j < ops.size → listed.getD j false = false → j ∈ U) → U.length ≤ fuel →
      Inv B ops S f0 h0 top σ0 w0 (fun j => listed.getD j false) q σ hp a w → wpAnyIn (FW r) n P .any ops Q fuel listed a w
  | 0, U, listed, q, σ, hp, a, w, hs, hU, hlen, v => by
    have hnil : U = [] := List.eq_nil_of_length_eq_zero (by omega)
    have hall : ∀ j, j < ops.size → listed.getD j false = true := fun j hj => by
      cases hl : listed.getD j false with
      | true => rfl
      | false => have := hU j hj hl; rw [hnil] at this; cases this
    refine ⟨?_, hQ _ _ _ _ _ _ hall v⟩
    cases hr : Region.ready .any ops listed with
    | nil => rfl
    | cons j js =>
      have := (mem_ready (ops := ops) (j := j) (md := .any) (listed := listed)).1 (by rw [hr]; simp)
      obtain ⟨h1, h2⟩ := getD_false this.1
      rw [hall j (by omega)] at h2; cases h2
  | fuel + 1, U, listed, q, σ, hp, a, w, hs, hU, hlen, v => by
    refine ⟨fun hr => hQ _ _ _ _ _ _ (draw_end t hs hr) v, fun i hir => ?_⟩
    obtain ⟨h1, o, ho, he⟩ := mem_ready.1 hir
    obtain ⟨h2, h3⟩ := getD_false h1
    refine v.op t ht hrec ho h3 (fun e h4 h5 => he e h4 h5) fun a' w' q' σ' hp' v' => ?_
    rw [← upd_listed h2] at v'
    refine draw_any t ht hrec hQ fuel (U.erase i) _ q' σ' hp' a' w' (by simp [hs]) (fun j hj hl => ?_) ?_ v'
    · have h6 := congrFun (upd_listed h2) j
      rw [h6] at hl
      unfold upd at hl
      split at hl
      · cases hl
      · rename_i hji
        exact (List.mem_erase_of_ne hji).2 (hU j hj hl)
    · have h7 := hU i (by omega) h3
      have h8 := List.length_pos_of_mem h7
      rw [List.length_erase_of_mem h7]
      omega
end

section
variable {B : Nat} {P : Program} {σ : Sg} {h : H} {w : World} {tab : Tab} {rec : Code → F → H → Option R}

theorem drawA_sound (ht : TabOk P tab) (hrec : RecOk P rec) (hm : P.follows .mixedOrders = true) {r : Option Nat} {n : Nat} {id : Nat} {ops : Array Oper} {a : Act} {f f' : F} {h' : H} (hf : FR σ f a r) (hr : HR B σ h.heap.get h.next w) (hx : drawA P tab rec ops f h = some (f', h')) {Q : Exit → Act → World → Prop}
    (hQ : ∀ a' σ' w', FR σ' f' a' r → Step B σ h.heap.get h.next w σ' h'.heap.get h'.next w' → Q .normal a' w') : (Code.region id ops true).wpIn (FW r) n P Q a w := by
  unfold drawA at hx
  cases hok : drawOk ops with
  | false => rw [hok] at hx; cases hx
  | true =>
    rw [hok] at hx
    simp only [cond_true] at hx
    split at hx
    · rename_i d hgo
      cases hnid : Nat.ble d.nid (h.next + allocs P ops.toList) with
      | false => rw [hnid] at hx; cases hx
      | true =>
        rw [hnid] at hx
        simp only [cond_true] at hx
        split at hx
        · rename_i h1 hall
          simp only [Option.some.injEq, Prod.mk.injEq] at hx
          obtain ⟨rfl, rfl⟩ := hx
          obtain ⟨S, e1, e2, e3⟩ := drawGo_tr _ _ _ _ _ hgo
          rw [Nat.zero_add, Array.length_toList] at e2
          have t : Tr P tab rec ops (fun i => (masksA [] ops.toList).getD i 0) S f h (allocs P ops.toList) := by
            refine ⟨drawOk_fore hok, e1, fun i o ho => ?_, by rw [e2]; exact ble_of hnid⟩
            have := e3 i o (by simpa using ho)
            simpa using this
          refine wpIn_region_any hm ?_
          have hstart : Step B σ h.heap.get h.next { w with drawn := w.drawn + 1 } σ h.heap.get (S 0).h.next { w with drawn := w.drawn + 1 } := by
            have h1 := hr.drewN (w.drawn + 1)
            have h2 := Step.refl h1
            have hn : (S 0).h.next = h.next + allocs P ops.toList := by rw [t.start]
            refine ⟨h2.os, h2.tape, h2.output, h2.size, h2.old, h2.img, h2.keep, h2.keepN, h2.keepS, by omega, ⟨h1.live, h1.inj, fun k hk => h1.fresh k (by omega), h1.base, h1.glob⟩⟩
          have hheap : (S 0).h.heap = h.heap := by rw [t.start]
          have v0 : Inv B ops S f h (allocs P ops.toList) σ { w with drawn := w.drawn + 1 } (fun j => (Array.replicate ops.size false).getD j false) 0 σ h.heap.get a { w with drawn := w.drawn + 1 } := by
            have hL : ∀ j, (Array.replicate ops.size false).getD j false = false := fun j => by
              simp only [Array.getD_eq_getD_getElem?, Array.getElem?_replicate]
              split <;> rfl
            refine ⟨fun i o hl => (by rw [hL] at hl; cases hl), Nat.zero_le _, fun j hj _ => by rw [hL]; simp, fun k o hk => by rw [hheap] at hk; exact hk, fun p _ hl => (by rw [hL] at hl; cases hl), fun p hp _ => ?_, hstart, by rw [t.start]; exact Nat.le_refl _, fun k o hk => ⟨o, by rw [hheap]; exact hk⟩, hf.size, fun x => ?_, hf.ds⟩
            · have := (t.made_lt ops.size (Nat.le_refl _) hp).2.1
              exact ⟨(hr.fresh _ this).2, (hr.fresh _ this).1⟩
            · have := t.fr_eq (L := fun j => (Array.replicate ops.size false).getD j false) (i := 0) (x := x) (Nat.zero_le _) (fun j _ _ => by rw [hL]; simp) ops.size (Nat.le_refl _)
              rw [this, show min ops.size 0 = 0 by omega, t.start]
              exact hf.slot x
          refine draw_any t ht hrec (fun L q σ' hp a' w' hL v => ?_) ops.size (List.range ops.size) _ 0 σ h.heap.get a _ (by simp) (fun j hj _ => List.mem_range.2 hj) (by simp) v0
          have hq := v.qle
          have hqh : (S q).h = d.h := by
            have := t.h_same (n := q) (ops.size - q) (by omega) fun j h1 h2 hwj => by
              have := (v.cut j (by omega) hwj).1 (hL j (by omega))
              omega
            rw [show q + (ops.size - q) = ops.size by omega, e2] at this
            exact this.symm
          obtain ⟨g1, g2, g3⟩ := activateAll_inv _ _ _ hall
          have hsub : ∀ k o, h1.heap.get k = some o → hp k = some o := fun k o hk => by
            rcases g3 k o hk with x1 | ⟨x1, p, x2, x3, x4⟩
            · exact v.sub k o (by rw [hqh]; exact x1)
            · rw [← e2] at x2
              rcases v.has p x2 (hL _ (t.made_lt _ (Nat.le_refl _) x2).1) with y | ⟨o', y⟩
              · rw [← x3, ← x4]; exact y
              · rw [x3, hqh, x1] at y; cases y
          have hst := v.st
          rw [hqh, ← g1] at hst
          have hfin := hst.less hsub fun k o hk => by
            obtain ⟨o', x⟩ := v.keepS k o hk
            exact ⟨o', g2 _ _ (by rw [← hqh]; exact x)⟩
          have hle := hst.le (hr.drewN (w.drawn + 1))
          obtain ⟨b1, b2, b3⟩ := t.same ops.size (Nat.le_refl _)
          rw [e2] at b1 b2 b3
          refine hQ a' σ' w' ⟨by rw [b1]; exact v.size, fun x => ?_, by rw [b2]; exact v.ds.mono hle, by rw [b3]; exact hf.rd.mono hle⟩ ?_
          · have := t.fr_eq (L := L) (i := ops.size) (x := x) (Nat.le_refl _) (fun j hj _ => ⟨fun _ => hj, fun _ => hL j hj⟩) ops.size (Nat.le_refl _)
            rw [Nat.min_self, e2] at this
            rw [← this]
            exact v.slot x
          · exact ⟨hfin.os, hfin.tape, hfin.output, hfin.size, hfin.old, hfin.img, hfin.keep, hfin.keepN, hfin.keepS, hfin.nxle, hfin.hr⟩
        · cases hx
    · cases hx
end
end Go.Proofs.YtflnpcgnenhogaaDoor.ev

namespace Go.Proofs.YtflnpcgnenhogaaDoor.ev
open Go Go.RowKit

section
variable {B : Nat} {P : Program} {σ : Sg} {h : H} {w : World} {tab : Tab}

theorem Post.after {σ1 : Sg} {h1 : H} {w1 : World} {r : Option Nat} {x : X} {f' : F} {h' : H} {e : Exit} {a : Act} {w' : World} (st : Step B σ h.heap.get h.next w σ1 h1.heap.get h1.next w1) (p : Post B σ1 h1 w1 r x f' h' e a w') : Post B σ h w r x f' h' e a w' := by
  obtain ⟨p1, σ', p2, p3⟩ := p
  exact ⟨p1, σ', p2, st.trans p3⟩

theorem loopA_sound {b : Code} {r : Option Nat} {k : Nat} : ∀ (n : Nat), (∀ m, m < n → RecOk P (codeA P tab m)) → ∀ {σ : Sg} {f : F} {h : H} {a : Act} {w : World} {x : X} {f' : F} {h' : H}, codeA P tab n (.loop b) f h = some ⟨x, f', h'⟩ → FR σ f a r → HR B σ h.heap.get h.next w →
    ∀ {Q : Exit → Act → World → Prop}, (∀ e a w', Post B σ h w r x f' h' e a w' → Q e a w') → Code.roundsIn (FW r) k P b Q n a w
  | 0, _, σ, f, h, a, w, x, f', h', hx, _, _, _, _ => by simp [codeA] at hx
  | n + 1, ih, σ, f, h, a, w, x, f', h', hx, hf, hr, Q, hQ => by
    rw [roundsIn_succ]
    simp only [codeA] at hx
    cases hb : codeA P tab n b f h with
    | none => rw [hb] at hx; cases hx
    | some R =>
      obtain ⟨x1, f1, h1⟩ := R
      rw [hb] at hx
      have hw := ih n (by omega) b f h x1 f1 h1 hb B σ a w r k hf hr
      cases x1 with
      | normal =>
        refine wpIn_mono hw ?_
        rintro e a1 w1 ⟨hxr, σ1, hf1, hst⟩
        have he : e = .normal := hxr
        subst he
        exact loopA_sound n (fun m hm => ih m (by omega)) hx hf1 hst.hr fun e a w' p => hQ e a w' (p.after hst)
      | exit id =>
        injection hx with hx; injection hx with e1 e2 e3; subst e1; subst e2; subst e3
        refine wpIn_mono hw ?_
        intro e a1 w1 p
        have he : e = .exit id := p.1
        subst he
        exact hQ _ _ _ p
      | ret =>
        injection hx with hx; injection hx with e1 e2 e3; subst e1; subst e2; subst e3
        refine wpIn_mono hw ?_
        intro e a1 w1 p
        have he : e = .ret := p.1
        subst he
        exact hQ _ _ _ p

theorem callA_fn (ht : TabOk P tab) {rec : Code → F → H → Option R} {g : FuncId} {args : List Value} {v : Value} {h' : H} (hc : callA P tab rec g args h = some (v, h')) : ∃ x c, tab g = some x ∧ x.fn.body = some c := by
  unfold callA at hc
  split at hc
  · rename_i fn hfn
    split at hc
    · rename_i r hans
      split at hans
      · rename_i t ht'
        obtain ⟨c, hb⟩ := ((ht g fn hfn).2.2 t ht').2
        exact ⟨fn, c, hfn, hb⟩
      · cases hans
    · split at hc
      · rename_i c hb
        exact ⟨fn, c, hfn, hb⟩
      · cases hc
  · cases hc

/-- behind the record: the function is called; what its rounds have left is done -/
theorem rangeA_sound {n : Nat} (ht : TabOk P tab) (hrec : RecOk P (codeA P tab n)) {g : Operand} {ps : Array Tmp} {assign body : Code} {r : Option Nat} {m : Nat} {f f1 : F} {a : Act} {i : FuncId} {first captured : Array Value} {k b κ db : Nat} {h2 : H} {w2 : World} {σ2 : Sg} {x : X} {f' : F} {h' : H} {mark : List Deferred}
    {Q : Exit → Act → World → Prop} (hg : VR σ2 (.func (.func i) first captured) (a.eval g)) (hr2 : HR B σ2 h2.heap.get h2.next w2) (_ : h2.heap.get k = some (.loop .ready none ⟨f.sz, f.t, [], none⟩ ps.toList assign body db)) (hs2 : σ2 k = some (b, κ))
    (hf1 : FR σ2 f1 { a with defers := mark ++ a.defers } r)
    (hx : (match callA P tab (codeA P tab n) i (first.toList ++ .func (.yield k) #[] #[] :: captured.toList) h2 with
          | some (_, h3) => (match h3.heap.get k with
            | some (.loop st pd f' ps' aas' bd' db') => (match st with
              | .busy => none
              | _ => (match h3.set k (.loop .exhausted pd f' ps' aas' bd' db') with
                | some h4 =>
                  (match pd with
                  | none => some ⟨.normal, f1, h4⟩
                  | some c => codeA P tab n c f1 h4)
                | none => none))
            | _ => none)
          | none => none) = some (⟨x, f', h'⟩ : R))
    (hQ : ∀ e a w', Post B σ2 h2 w2 r x f' h' e a w' → Q e a w') :
    ∃ (d : Deferred) (args : Array Value), (resolve a.eval (rangeCall g b) 0).run P w2 = .ok d w2 ∧ (invoke d.target d.args).run P w2 = .ok (.enter i args) w2 ∧
      CallsIn (FW r) (m - 1) P i args w2 (rangePost (FW r) m P b Q { a with defers := mark ++ a.defers }) := by
  obtain ⟨ds, ds', e1, e2, e3⟩ := hg.func_inv rfl
  have hy : VR σ2 (.func (.yield k) #[] #[]) (.func (.yield b) #[] #[]) := .yield hs2
  cases hc : callA P tab (codeA P tab n) i (first.toList ++ .func (.yield k) #[] #[] :: captured.toList) h2 with
  | none => rw [hc] at hx; cases hx
  | some vh =>
    obtain ⟨v, h3⟩ := vh
    rw [hc] at hx
    simp only at hx
    obtain ⟨fn, c, hfn, hb⟩ := callA_fn ht hc
    have hl : LR σ2 (first.toList ++ .func (.yield k) #[] #[] :: captured.toList) (ds.toList ++ .func (.yield b) #[] #[] :: ds'.toList) := e2.append (LR.cons hy e3)
    refine ⟨{ target := .fn (.func i) ds', args := ds ++ #[.func (.yield b) #[] #[]] }, (ds.toList ++ .func (.yield b) #[] #[] :: ds'.toList).toArray, ?_, ?_, ?_⟩
    · simp only [resolve, e1]
      simp [go_sem, Deferred.ofValue]
    · have : ds ++ #[Value.func (.yield b) #[] #[]] ++ ds' = (ds.toList ++ .func (.yield b) #[] #[] :: ds'.toList).toArray := by apply Array.ext'; simp
      simp only [invoke]
      rw [this]
      exact callee_run ht hfn hb _
    · refine (callsIn_any (callA_sound ht hrec hr2 hl hc m)).mono ?_
      rintro e w3 ⟨u, σ3, rfl, d1, hst3⟩
      split at hx
      · rename_i st pd fl ps' aas' bd' db' hk3
        have hle3 := hst3.le hr2
        have hs3 := hle3 _ _ hs2
        obtain ⟨l, l1, l2, l3, l4, l5, l6, l7, l8, l9⟩ := hst3.hr.loopAt hk3 hs3
        have key : ∀ h4, st ≠ .busy → h3.set k (.loop .exhausted pd fl ps' aas' bd' db') = some h4 → (match pd with
                  | none => some (⟨.normal, f1, h4⟩ : R)
                  | some c => codeA P tab n c f1 h4) = some ⟨x, f', h'⟩ → rangePost (FW r) m P b Q { a with defers := mark ++ a.defers } (.returned u) w3 := fun h4 hbusy hset hx => by
          have hst4 := hst3.hr.putObj (o2 := .loop .exhausted pd fl ps' aas' bd' db') (ob := .loop { l with state := .exhausted }) hk3 rfl rfl hs3 ⟨_, rfl, rfl, l3, l4, l5, l6, l7, l8, l9⟩ hset
          have hall := hst3.trans hst4
          have fin : ∀ jump, jump = pd → (match jump with
              | none => Q .normal { a with defers := mark ++ a.defers } (w3.putObj b (.loop { l with state := .exhausted }))
              | some c => c.wpIn (FW r) m P Q { a with defers := mark ++ a.defers } (w3.putObj b (.loop { l with state := .exhausted }))) := fun jump hj => by
            rw [← hj] at hx
            cases jump with
            | none =>
              simp only [Option.some.injEq, R.mk.injEq] at hx
              obtain ⟨rfl, rfl, rfl⟩ := hx
              exact hQ _ _ _ ⟨rfl, σ3, hf1.mono hle3, hall⟩
            | some c =>
              simp only at hx
              exact wpIn_mono (hrec c f1 h4 x f' h' hx B σ3 _ _ r m (hf1.mono hle3) hall.hr) fun e a w' p => hQ e a w' (p.after hall)
          exact ⟨l.pending, _, run_endLoop l1 (by rw [l2]; exact hbusy), fin _ l3⟩
        cases st with
        | busy => cases hx
        | ready =>
          simp only at hx
          cases hset : h3.set k (.loop .exhausted pd fl ps' aas' bd' db') with
          | none => rw [hset] at hx; cases hx
          | some h4 => rw [hset] at hx; exact key h4 (by simp) hset hx
        | done =>
          simp only at hx
          cases hset : h3.set k (.loop .exhausted pd fl ps' aas' bd' db') with
          | none => rw [hset] at hx; cases hx
          | some h4 => rw [hset] at hx; exact key h4 (by simp) hset hx
        | exhausted =>
          simp only at hx
          cases hset : h3.set k (.loop .exhausted pd fl ps' aas' bd' db') with
          | none => rw [hset] at hx; cases hx
          | some h4 => rw [hset] at hx; exact key h4 (by simp) hset hx
      · cases hx

theorem stepR_scope {b : Frame} {a : Act} {k : List Item} {cs : List Frame} {w : World} {c : Code} : step P (lone (b.atR a (.code (.scope c) :: k)) cs w) = .next (lone (b.atR a (.code c :: .inScope c :: k)) cs w) :=
  step_lone_go (by simp [stepG, stepG.exec, Frame.atR])
theorem stepR_inScope {b : Frame} {a : Act} {k : List Item} {cs : List Frame} {w : World} {c : Code} : step P (lone (b.atR a (.inScope c :: k)) cs w) = .next (lone (b.atR a k) cs w) :=
  step_lone_go (by simp [stepG, stepG.exec, Frame.atR])
theorem wpIn_scope {F : Fence} {n : Nat} {Q : Exit → Act → World → Prop} {a : Act} {w : World} {c : Code} (h : c.wpIn F n P (Exit.noGoto Q) a w) : (Code.scope c).wpIn F n P Q a w := by
  intro b k cs hro hb hr
  have h0 : (lone (b.atR a (.code (.scope c) :: k)) cs w).fenced P F := fenced_calm hb hr rfl
  obtain ⟨e, a₁, w₁, hq, harr⟩ := h b (.inScope c :: k) cs hro hb hr
  cases e with
  | normal => exact ⟨.normal, a₁, w₁, hq, .head h0 stepR_scope (StepsIn.trans harr (.one (fenced_calm hb hr rfl) stepR_inScope))⟩
  | exit id' =>
    have hx : exitTo id' (.inScope c :: k) = exitTo id' k := by simp [exitTo]
    exact ⟨.exit id', a₁, w₁, hq, fun k' hk => .head h0 stepR_scope (harr.1 k' (by rw [hx]; exact hk)),
      fun hr' hk => let ⟨k₁, h1, h2⟩ := harr.2 hr' (by rw [hx]; exact hk); ⟨k₁, h1, .head h0 stepR_scope h2⟩⟩
  | goto l => exact hq.elim
  | ret => exact ⟨_, a₁, w₁, hq, .of_steps (.one h0 stepR_scope) harr⟩
  | panic ch => exact ⟨_, a₁, w₁, hq, .of_steps (.one h0 stepR_scope) harr⟩
  | outgrown => exact ⟨_, a₁, w₁, hq, .of_steps (.one h0 stepR_scope) harr⟩

theorem codeA_sound (ht : TabOk P tab) (hm : P.follows .mixedOrders = true) : ∀ n, RecOk P (codeA P tab n) := by
  intro n
  induction n using Nat.strongRecOn with
  | ind n ih =>
    cases n with
    | zero => intro c f h x f' h' hx; simp [codeA] at hx
    | succ n =>
      intro c f h x f' h' hx B σ a w r k hf hr
      have hrec := ih n (by omega)
      cases c with
      | skip =>
        simp only [codeA, Option.some.injEq, R.mk.injEq] at hx
        obtain ⟨rfl, rfl, rfl⟩ := hx
        exact wpIn_skip ⟨rfl, σ, hf, Step.refl hr⟩
      | label l =>
        simp only [codeA, Option.some.injEq, R.mk.injEq] at hx
        obtain ⟨rfl, rfl, rfl⟩ := hx
        exact wpIn_label ⟨rfl, σ, hf, Step.refl hr⟩
      | ret =>
        simp only [codeA, Option.some.injEq, R.mk.injEq] at hx
        obtain ⟨rfl, rfl, rfl⟩ := hx
        exact wpIn_ret ⟨rfl, σ, hf, Step.refl hr⟩
      | exit id =>
        simp only [codeA, Option.some.injEq, R.mk.injEq] at hx
        obtain ⟨rfl, rfl, rfl⟩ := hx
        exact wpIn_exit ⟨rfl, σ, hf, Step.refl hr⟩
      | seq c1 c2 =>
        simp only [codeA] at hx
        refine wpIn_seq ?_
        cases hb : codeA P tab n c1 f h with
        | none => rw [hb] at hx; cases hx
        | some R1 =>
          obtain ⟨x1, f1, h1⟩ := R1
          rw [hb] at hx
          have hw := hrec c1 f h x1 f1 h1 hb B σ a w r k hf hr
          cases x1 with
          | normal =>
            refine wpIn_mono hw ?_
            rintro e a1 w1 ⟨hxr, σ1, hf1, hst⟩
            have he : e = .normal := hxr
            subst he
            exact wpIn_mono (hrec c2 f1 h1 x f' h' hx B σ1 a1 w1 r k hf1 hst.hr) fun e a w' p => p.after hst
          | exit id =>
            injection hx with hx; injection hx with e1 e2 e3; subst e1; subst e2; subst e3
            refine wpIn_mono hw fun e a1 w1 p => ?_
            have he : e = .exit id := p.1
            subst he
            exact p
          | ret =>
            injection hx with hx; injection hx with e1 e2 e3; subst e1; subst e2; subst e3
            refine wpIn_mono hw fun e a1 w1 p => ?_
            have he : e = .ret := p.1
            subst he
            exact p
      | cond y c1 c2 =>
        simp only [codeA] at hx
        have hvo := hf.vo hr.glob y
        split at hx
        · rename_i hy
          have := (hvo _ hy).atom_inv rfl
          exact wpIn_cond_true this (hrec c1 f h x f' h' hx B σ a w r k hf hr)
        · rename_i hy
          have := (hvo _ hy).atom_inv rfl
          exact wpIn_cond_false this (hrec c2 f h x f' h' hx B σ a w r k hf hr)
        · cases hx
      | block id c1 =>
        simp only [codeA] at hx
        refine wpIn_block ?_
        cases hb : codeA P tab n c1 f h with
        | none => rw [hb] at hx; cases hx
        | some R1 =>
          obtain ⟨x1, f1, h1⟩ := R1
          rw [hb] at hx
          have hw := hrec c1 f h x1 f1 h1 hb B σ a w r k hf hr
          cases x1 with
          | normal =>
            injection hx with hx; injection hx with e1 e2 e3; subst e1; subst e2; subst e3
            refine wpIn_mono hw fun e a1 w1 p => ?_
            have he : e = .normal := p.1
            subst he
            exact p
          | exit i =>
            simp only at hx
            cases hi : Nat.beq i id with
            | true =>
              rw [hi] at hx
              simp only [cond_true, Option.some.injEq, R.mk.injEq] at hx
              obtain ⟨rfl, rfl, rfl⟩ := hx
              refine wpIn_mono hw fun e a1 w1 p => ?_
              obtain ⟨he, p2⟩ := p
              have he : e = .exit i := he
              subst he
              show (if i = id then _ else _)
              rw [if_pos (beq_of hi)]
              exact ⟨rfl, p2⟩
            | false =>
              rw [hi] at hx
              simp only [cond_false, Option.some.injEq, R.mk.injEq] at hx
              obtain ⟨rfl, rfl, rfl⟩ := hx
              refine wpIn_mono hw fun e a1 w1 p => ?_
              obtain ⟨he, p2⟩ := p
              have he : e = .exit i := he
              subst he
              show (if i = id then _ else _)
              rw [if_neg (nbeq_of hi)]
              exact ⟨rfl, p2⟩
          | ret =>
            injection hx with hx; injection hx with e1 e2 e3; subst e1; subst e2; subst e3
            refine wpIn_mono hw fun e a1 w1 p => ?_
            have he : e = .ret := p.1
            subst he
            exact p
      | loop c1 => exact wpIn_loop_rounds (n + 1) (loopA_sound (n + 1) ih hx hf hr fun e a w' p => p)
      | region id ops dr =>
        cases dr with
        | false =>
          simp only [codeA] at hx
          split at hx
          · rename_i f1 h1 hops
            simp only [Option.some.injEq, R.mk.injEq] at hx
            obtain ⟨rfl, rfl, rfl⟩ := hx
            refine wpIn_region ?_
            have := opsA_sound (Q := Post B σ h w r .normal f1 h1) (n := k) ht hrec ops.toList 0 σ f h a w (by simp) (by simp) hf hr hops fun a' σ' w' hf' hst => ⟨rfl, σ', hf', hst⟩
            rw [List.range_eq_range']
            simpa using this
          · cases hx
        | true =>
          simp only [codeA] at hx
          split at hx
          · rename_i f1 h1 hops
            simp only [Option.some.injEq, R.mk.injEq] at hx
            obtain ⟨rfl, rfl, rfl⟩ := hx
            exact drawA_sound ht hrec hm hf hr hops fun a' σ' w' hf' hst => ⟨rfl, σ', hf', hst⟩
          · cases hx
      | rangeFunc g ps assign body =>
        simp only [codeA] at hx
        split at hx
        · rename_i i first captured hgv
          have hgr := hf.vo hr.glob g _ hgv
          cases hrd : f.rd with
          | none =>
            rw [hrd] at hx
            simp only at hx
            have hr0 : r = none := by have := hf.rd; rw [hrd] at this; exact this
            subst hr0
            cases hn1 : h.new (.defd false) with
            | none => rw [hn1] at hx; cases hx
            | some dh =>
              obtain ⟨d, h1⟩ := dh
              rw [hn1] at hx
              simp only at hx
              cases hn2 : h1.new (.loop .ready none ⟨f.sz, f.t, [], none⟩ ps.toList assign body d) with
              | none => rw [hn2] at hx; cases hx
              | some kh =>
                obtain ⟨kk, h2⟩ := kh
                rw [hn2] at hx
                simp only at hx
                obtain ⟨rfl, a2, a3, a4⟩ := H.new_inv hn1
                obtain ⟨rfl, b2, b3, b4⟩ := H.new_inv hn2
                refine wpIn_rangeFunc fun fn _ => ?_
                have st1 := hr.newB (w' := w.alloc (.deferred (some []))) (κ := 0) (ob := .deferred (some [])) (o := .defd false) rfl rfl rfl rfl rfl a3 a4
                rw [← a2] at st1
                have hle1 := st1.le hr
                have st2 := st1.hr.newB (w' := (w.alloc (.deferred (some []))).alloc (.loop { state := .ready, pending := none, fn, tmps := a.tmps, params := ps, assign, body, defers := w.heap.size })) (κ := 0)
                  (ob := .loop { state := .ready, pending := none, fn, tmps := a.tmps, params := ps, assign, body, defers := w.heap.size }) (o := .loop .ready none ⟨f.sz, f.t, [], none⟩ ps.toList assign body h.next) rfl rfl rfl rfl
                  (by
                    have hle2 := Sg.set_le (σ := σ.set h.next w.heap.size 0) (k := h1.next) (w.alloc (.deferred (some []))).heap.size 0 (st1.hr.fresh _ (Nat.le_refl _)).1
                    exact ⟨_, rfl, rfl, rfl, rfl, rfl, rfl, ⟨0, hle2 _ _ (Sg.set_same _ _ _ _)⟩, hf.size, fun j => ((hf.slot j).mono hle1).mono hle2⟩) b3 b4
                rw [← b2] at st2
                have hst := st1.trans st2
                have hle := hst.le hr
                have hdb : (σ.set h.next w.heap.size 0).set h1.next (w.alloc (.deferred (some []))).heap.size 0 h.next = some (w.heap.size, 0) := by
                  rw [Sg.set_other _ _ _ (by omega), Sg.set_same]
                have hszw : (w.alloc (.deferred (some []))).heap.size = w.heap.size + 1 := by simp
                obtain ⟨dd, args, c1, c2, c3⟩ := rangeA_sound (m := k) (mark := [{ target := .collected w.heap.size, args := #[] }]) (f1 := ⟨f.sz, f.t, .mark h.next :: f.ds, f.rd⟩) (r := none) (a := a) (b := w.heap.size + 1) (κ := 0) (Q := Post B σ h w none x f' h') ht hrec (hgr.mono hle) hst.hr b3 (by rw [Sg.set_same, hszw])
                  ⟨hf.size, fun j => (hf.slot j).mono hle, ⟨w.heap.size, 0, a.defers, rfl, hdb, hf.ds.mono hle⟩, hf.rd.mono hle⟩ (by rw [hrd]; exact hx) fun e a w' p => p.after hst
                exact ⟨_, _, _, dd, _, i, args, _, run_enterLoop_outer _ _ _ _ _, c1, fun _ _ => trivial, c2, FW_depth none k, c3⟩
          | some r0 =>
            rw [hrd] at hx
            simp only at hx
            cases hl0 : h.heap.get r0 with
            | none => rw [hl0] at hx; cases hx
            | some o0 =>
              rw [hl0] at hx
              cases o0 with
              | loop st0 pd0 f00 ps0 as0 bd0 d =>
                simp only at hx
                cases hn2 : h.new (.loop .ready none ⟨f.sz, f.t, [], none⟩ ps.toList assign body d) with
                | none => rw [hn2] at hx; cases hx
                | some kh =>
                  obtain ⟨kk, h2⟩ := kh
                  rw [hn2] at hx
                  simp only at hx
                  obtain ⟨rfl, b2, b3, b4⟩ := H.new_inv hn2
                  have hrr := hf.rd
                  rw [hrd] at hrr
                  obtain ⟨b0, κ0, hr0, hs0⟩ := hrr
                  subst hr0
                  obtain ⟨l, l1, l2, l3, l4, l5, l6, ⟨κd, l7⟩, l8, l9⟩ := hr.loopAt hl0 hs0
                  refine wpIn_rangeFunc fun fn _ => ?_
                  have st2 := hr.newB (w' := w.alloc (.loop { state := .ready, pending := none, fn, tmps := a.tmps, params := ps, assign, body, defers := l.defers })) (κ := 0)
                    (ob := .loop { state := .ready, pending := none, fn, tmps := a.tmps, params := ps, assign, body, defers := l.defers }) (o := .loop .ready none ⟨f.sz, f.t, [], none⟩ ps.toList assign body d) rfl rfl rfl rfl
                    (by
                      have hle2 := Sg.set_le (σ := σ) (k := h.next) w.heap.size 0 (hr.fresh _ (Nat.le_refl _)).1
                      exact ⟨_, rfl, rfl, rfl, rfl, rfl, rfl, ⟨κd, hle2 _ _ l7⟩, hf.size, fun j => (hf.slot j).mono hle2⟩) b3 b4
                  rw [← b2] at st2
                  have hle := st2.le hr
                  obtain ⟨dd, args, c1, c2, c3⟩ := rangeA_sound (m := k) (mark := []) (f1 := f) (r := some b0) (a := a) (b := w.heap.size) (κ := 0) (Q := Post B σ h w (some b0) x f' h') ht hrec (hgr.mono hle) st2.hr b3 (by rw [Sg.set_same])
                    (hf.mono hle) hx fun e a w' p => p.after st2
                  exact ⟨_, _, _, dd, _, i, args, _, run_enterLoop_inner l1 _ _ _ _ _, c1, fun _ _ => trivial, c2, FW_depth _ k, c3⟩
              | _ => cases hx
        · cases hx
      | scope c1 =>
        simp only [codeA] at hx
        refine wpIn_scope (wpIn_mono (hrec c1 f h x f' h' hx B σ a w r k hf hr) fun e a1 w1 p => ?_)
        obtain ⟨p1, p2⟩ := p
        cases e with
        | goto l => cases x <;> cases p1
        | _ => exact ⟨p1, p2⟩
      | _ => simp [codeA] at hx
end
end Go.Proofs.YtflnpcgnenhogaaDoor.ev

namespace Go.Proofs.YtflnpcgnenhogaaDoor.ev
open Go Go.RowKit
noncomputable section

/-! ### the same run with small bodies: what the kernel reckons with -/
/-- an operation, a list of them, code: told apart once (the kernel keeps what they come to), then run -/
structure SO where
  run : (Code → F → H → Option R) → F → H → Option (F × H)
structure SG where
  run : F → Bool
structure SC1 where
  run : (Code → F → H → Option R) → F → H → Option R
def putQ (x : Option Value) (o : Oper) (f : F) (h : H) : Option (F × H) := @Option.rec Value (fun _ => Option (F × H)) none (fun v => @Option.rec F (fun _ => Option (F × H)) none (fun f' => some (f', h)) (F.put f o.dst v)) x
def op1Q (P : Program) (o : Oper) (f : F) (h : H) : Option (F × H) := match xa P o f.get h.next with
    | some (v, r) => (match h.new r with
      | some (_, h') => (match f.put o.dst v with | some f' => some (f', h') | none => none)
      | none => none)
    | none => none
def op2Q (P : Program) (tab : Tab) (rec : Code → F → H → Option R) (o : Oper) (f : F) (h : H) : Option (F × H) := match xw P tab o f.get h with
    | some (.val v h') => (match f.put o.dst v with | some f' => some (f', h') | none => none)
    | some (.skip h') => (match f.put o.dst undef with | some f' => some (f', h') | none => none)
    | some (.call g args h1) => (match callA P tab rec g args h1 with
      | some (v, h') => (match f.put o.dst v with | some f' => some (f', h') | none => none)
      | none => none)
    | some (.defer g args cap h') => (match f.rd with
      | none => (match (F.mk f.sz f.t (.call g args cap :: f.ds) none).put o.dst undef with | some f' => some (f', h') | none => none)
      | some _ => none)
    | some (.round k args h1) => (match roundA rec k args h1 with
      | some (v, h') => (match f.put o.dst v with | some f' => some (f', h') | none => none)
      | none => none)
    | none => none
def stO (P : Program) (tab : Tab) (o : Oper) : SO :=
  @Nat.rec (fun _ => SO) ⟨fun _ f h => putQ ((stX P o.type o.op).run (F.get f) h) o f h⟩ (fun k _ => @Nat.rec (fun _ => SO) ⟨fun _ f h => op1Q P o f h⟩ (fun _ _ => ⟨fun rec f h => op2Q P tab rec o f h⟩) k) (kindOf P o.op)
theorem stO_eq (P : Program) (tab : Tab) (rec : Code → F → H → Option R) (o : Oper) (f : F) (h : H) : (stO P tab o).run rec f h = opA P tab rec o f h := by
  unfold stO opA
  generalize kindOf P o.op = k
  match k with
  | 0 =>
    show putQ (xq P o f.get h) o f h = _
    unfold putQ
    simp only
    cases xq P o f.get h with
    | none => rfl
    | some v => simp only; cases f.put o.dst v <;> rfl
  | 1 => rfl
  | _ + 2 => rfl
def gOf (f : F) (d : Tmp) (want : Bool) : Bool := match F.get f d with | .bool b => b == want | _ => false
def stG (ops : Array Oper) (o : Oper) : SG :=
  match o.guard with
  | none => ⟨fun _ => true⟩
  | some (j, want) => match ops[j]? with
    | some p => (match p.dst with
      | some d => ⟨fun f => gOf f d want⟩
      | none => ⟨fun _ => false⟩)
    | none => ⟨fun _ => false⟩
theorem stG_eq (ops : Array Oper) (o : Oper) (f : F) : (stG ops o).run f = wantedA ops o f.get := by
  unfold stG wantedA
  cases o.guard with
  | none => rfl
  | some jw =>
    obtain ⟨j, want⟩ := jw
    simp only
    cases ops[j]? with
    | none => rfl
    | some p =>
      simp only
      cases p.dst <;> rfl

def nextQ (x : Option (F × H)) (k : F → H → Option (F × H)) : Option (F × H) := @Option.rec (F × H) (fun _ => Option (F × H)) none (fun p => @Prod.rec F H (fun _ => Option (F × H)) (fun f h => k f h) p) x
def offQ (x : Option F) (k : F → H → Option (F × H)) (h : H) : Option (F × H) := @Option.rec F (fun _ => Option (F × H)) none (fun f => k f h) x
def stL (P : Program) (tab : Tab) (ops : Array Oper) (l : List Oper) : SO :=
  @List.rec Oper (fun _ => SO) ⟨fun _ f h => some (f, h)⟩
    (fun o _ ih => ⟨fun rec f h => @Bool.rec (fun _ => Option (F × H)) (offQ (F.put f o.dst undef) (ih.run rec) h) (nextQ ((stO P tab o).run rec f h) (ih.run rec)) ((stG ops o).run f)⟩) l
theorem stL_eq (P : Program) (tab : Tab) (rec : Code → F → H → Option R) (ops : Array Oper) : ∀ (l : List Oper) (f : F) (h : H), (stL P tab ops l).run rec f h = opsA P tab rec ops l f h
  | [], _, _ => rfl
  | o :: l, f, h => by
    show @Bool.rec (fun _ => Option (F × H)) (offQ (F.put f o.dst undef) ((stL P tab ops l).run rec) h) (nextQ ((stO P tab o).run rec f h) ((stL P tab ops l).run rec)) ((stG ops o).run f) = _
    rw [stO_eq, stG_eq]
    unfold opsA
    cases wantedA ops o f.get with
    | true =>
      simp only
      cases opA P tab rec o f h with
      | none => rfl
      | some p => obtain ⟨f1, h1⟩ := p; exact stL_eq P tab rec ops l f1 h1
    | false =>
      simp only
      cases f.put o.dst undef with
      | none => rfl
      | some f1 => exact stL_eq P tab rec ops l f1 h

def thenQ (x : Option R) (k : F → H → Option R) : Option R := @Option.rec R (fun _ => Option R) none (fun p => @R.rec (fun _ => Option R) (fun x f h => @X.rec (fun _ => Option R) (k f h) (fun i => some ⟨.exit i, f, h⟩) (some ⟨.ret, f, h⟩) x) p) x
def condQ (rec : Code → F → H → Option R) (x : Option Value) (a b : Code) (f : F) (h : H) : Option R := match x with
  | some (.bool true) => rec a f h
  | some (.bool false) => rec b f h
  | _ => none
def blockQ (x : Option R) (id : Nat) : Option R := match x with
      | some ⟨.exit i, f', h'⟩ => bif Nat.beq i id then some ⟨.normal, f', h'⟩ else some ⟨.exit i, f', h'⟩
      | r => r
def regQ (x : Option (F × H)) : Option R := @Option.rec (F × H) (fun _ => Option R) none (fun p => @Prod.rec F H (fun _ => Option R) (fun f h => some ⟨.normal, f, h⟩) p) x
def rfQ (P : Program) (tab : Tab) (rec : Code → F → H → Option R) (g : Operand) (ps : Array Tmp) (assign body : Code) (f : F) (h : H) : Option R := match opv f.get g with
      | some (.func (.func i) first captured) =>
        let l : Option (Nat × Option Nat × H) := match f.rd with
          | none => (match h.new (.defd false) with
            | some (d, h1) => (match h1.new (.loop .ready none ⟨f.sz, f.t, [], none⟩ ps.toList assign body d) with | some (k, h2) => some (k, some d, h2) | none => none)
            | none => none)
          | some r => (match h.heap.get r with
            | some (.loop _ _ _ _ _ _ d) => (match h.new (.loop .ready none ⟨f.sz, f.t, [], none⟩ ps.toList assign body d) with | some (k, h2) => some (k, none, h2) | none => none)
            | _ => none)
        match l with
        | some (k, md, h2) => (match callA P tab rec i (first.toList ++ .func (.yield k) #[] #[] :: captured.toList) h2 with
          | some (_, h3) => (match h3.heap.get k with
            | some (.loop st pd f' ps' aas' bd' db') => (match st with
              | .busy => none
              | _ => (match h3.set k (.loop .exhausted pd f' ps' aas' bd' db') with
                | some h4 =>
                  let f1 : F := match md with | some d => ⟨f.sz, f.t, .mark d :: f.ds, f.rd⟩ | none => f
                  (match pd with
                  | none => some ⟨.normal, f1, h4⟩
                  | some c => rec c f1 h4)
                | none => none))
            | _ => none)
          | none => none)
        | none => none
      | _ => none
def stC (P : Program) (tab : Tab) (c : Code) : SC1 :=
  match c with
  | .skip => ⟨fun _ f h => some ⟨.normal, f, h⟩⟩
  | .label _ => ⟨fun _ f h => some ⟨.normal, f, h⟩⟩
  | .ret => ⟨fun _ f h => some ⟨.ret, f, h⟩⟩
  | .exit id => ⟨fun _ f h => some ⟨.exit id, f, h⟩⟩
  | .seq a b => ⟨fun rec f h => thenQ (rec a f h) (rec b)⟩
  | .cond x a b => ⟨fun rec f h => condQ rec (opv (F.get f) x) a b f h⟩
  | .block id b => ⟨fun rec f h => blockQ (rec b f h) id⟩
  | .loop b => ⟨fun rec f h => thenQ (rec b f h) (rec (.loop b))⟩
  | .scope b => ⟨fun rec f h => rec b f h⟩
  | .region _ ops dr => @Bool.rec (fun _ => SC1) ⟨fun rec f h => regQ ((stL P tab ops ops.toList).run rec f h)⟩ ⟨fun rec f h => regQ (drawA P tab rec ops f h)⟩ dr
  | .rangeFunc g ps assign body => ⟨fun rec f h => rfQ P tab rec g ps assign body f h⟩
  | _ => ⟨fun _ _ _ => none⟩
def codeQ (P : Program) (tab : Tab) (n : Nat) : Code → F → H → Option R :=
  @Nat.rec (fun _ => Code → F → H → Option R) (fun _ _ _ => none) (fun _ rec c f h => (stC P tab c).run rec f h) n

theorem thenQ_eq (x : Option R) (k : F → H → Option R) : thenQ x k = match x with | some ⟨.normal, f', h'⟩ => k f' h' | r => r := by
  cases x with
  | none => rfl
  | some p => obtain ⟨x, f, h⟩ := p; cases x <;> rfl
theorem regQ_eq (x : Option (F × H)) : regQ x = match x with | some (f', h') => some ⟨.normal, f', h'⟩ | none => none := by
  cases x with
  | none => rfl
  | some p => rfl
theorem codeQ_eq (P : Program) (tab : Tab) : ∀ n, codeQ P tab n = codeA P tab n
  | 0 => by funext c f h; simp only [codeA]; rfl
  | n + 1 => by
    funext c f h
    show (stC P tab c).run (codeQ P tab n) f h = _
    rw [codeQ_eq P tab n]
    cases c with
    | seq a b => simp only [stC, codeA, thenQ_eq]; rfl
    | loop b => simp only [stC, codeA, thenQ_eq]; rfl
    | region i ops dr =>
      cases dr with
      | false => simp only [stC, codeA, regQ_eq, stL_eq]; rfl
      | true => simp only [stC, codeA, regQ_eq]; rfl
    | cond x a b => simp only [stC, codeA, condQ]; rfl
    | block id b => simp only [stC, codeA, blockQ]; rfl
    | rangeFunc g ps assign body => simp only [stC, codeA, rfQ]; rfl
    | _ => simp only [stC, codeA]
end
end Go.Proofs.YtflnpcgnenhogaaDoor.ev

namespace Go.Proofs.YtflnpcgnenhogaaDoor.ev
open Go Go.RowKit

def tabP (P : Program) : Tab := fun i => match P.funcs[i]? with | some fn => some ⟨fn, none⟩ | none => none
def namesOk (P : Program) : Bool := P.funcs.toList.all fun fn => !(fn.name == "runtime.NumGoroutine")
theorem names_at {P : Program} (h : namesOk P = true) {i : Nat} {fn : Func} (hi : P.funcs[i]? = some fn) : (fn.name == "runtime.NumGoroutine") = false := by
  have h1 := List.all_eq_true.1 h fn (by
    have : P.funcs.toList[i]? = some fn := by simpa using hi
    exact List.mem_of_getElem? this)
  simpa using h1
theorem tabP_ok {P : Program} (h : namesOk P = true) : TabOk P (tabP P) := by
  intro i x hi
  unfold tabP at hi
  split at hi
  · rename_i fn hfn
    injection hi with hi; subst hi
    exact ⟨hfn, names_at h hfn, fun t ht => by cases ht⟩
  · cases hi
def sg0 : Sg := fun i => if i < 1000 then some (i, 0) else none
theorem HR.start {h0 : H} {W : World} (hn : h0.next = 1000) (hG : ∀ k o, h0.heap.get k = some o → k < 1000 ∧ o.ro = true ∧ ∃ ob, W.heap[k]? = some ob ∧ ORel sg0 0 o ob) : HR W.heap.size sg0 h0.heap.get h0.next W := by
  refine ⟨fun k o h1 h2 => ?_, fun k k' o o' b κ κ' h1 h2 h3 h4 h5 h6 => ?_, fun k hk => ?_, Nat.le_refl _, fun i hi => if_pos hi⟩
  · obtain ⟨a1, a2, ob, a3, a4⟩ := hG k o h1
    exact ⟨k, 0, ob, if_pos a1, a3, a4, fun h => by rw [a2] at h; cases h⟩
  · obtain ⟨a1, _⟩ := hG k o h1
    obtain ⟨b1, _⟩ := hG k' o' h3
    unfold sg0 at h5 h6
    rw [if_pos a1] at h5
    rw [if_pos b1] at h6
    injection h5 with h5; injection h5 with h5 _
    injection h6 with h6; injection h6 with h6 _
    omega
  · refine ⟨if_neg (by omega), ?_⟩
    cases he : h0.heap.get k with
    | none => rfl
    | some o => have := (hG k o he).1; omega

def isTrue : Option (Value × H) → Bool
  | some (.bool true, _) => true
  | _ => false
theorem isTrue_inv {r : Option (Value × H)} (h : isTrue r = true) : ∃ h', r = some (.bool true, h') := by
  unfold isTrue at h
  split at h
  · exact ⟨_, rfl⟩
  · cases h

/-! ### two package-level variables of two cells each, aas blocks 0 and 1 -/
def pairRow (a b : Value) (e : TypeId) : AO := .row 2 (.node (.node .leaf (some b) .leaf) (some a) .leaf) undef e none false
theorem pairRow_rel {a b : Value} {e : TypeId} {z : Nat × Nat} (ha : flatN 1 a = true) (hb : flatN 1 b = true) : ORel sg0 0 (pairRow a b e) (.cells #[a, b] e z) := by
  refine ⟨#[a, b], z, rfl, Nat.le_refl _, fun i hi => ?_, fun sz h => (by cases h), fun h => (by cases h), fun _ => rfl⟩
  match i, hi with
  | 0, _ => exact ⟨a, rfl, VR.same 1 _ ha⟩
  | 1, _ => exact ⟨b, rfl, VR.same 1 _ hb⟩
end Go.Proofs.YtflnpcgnenhogaaDoor.ev

namespace Go.Proofs.YtflnpcgnenhogaaDoor.ev
open Go Go.RowKit

/-! ### a closed call that is known -/
theorem Step.below {B : Nat} {σ : Sg} {hp : Nat → Option AO} {nx : Nat} {w w' : World} (hr : HR B σ hp nx w) (hb : Below w.heap.size w w') : Step B σ hp nx w σ hp nx w' := by
  have hsame : ∀ b, b < w.heap.size → w'.heap[b]? = w.heap[b]? := fun b h => hb.block b h
  have hlt : ∀ k o b κ, hp k = some o → o.isDead = false → σ k = some (b, κ) → b < w.heap.size := fun k o b κ h1 h2 h3 => hr.lt_of h1 h2 h3
  refine ⟨hb.os, hb.tape, hb.output, hb.size, fun b h _ => hsame b h, fun k o b κ h1 h2 h3 => .inr ⟨k, o, κ, h1, h2, h3, id⟩, fun _ _ => rfl, fun _ _ h => h, fun _ o h => ⟨o, h⟩, Nat.le_refl _, ⟨fun k o h1 h2 => ?_, hr.inj, hr.fresh, Nat.le_trans hr.base hb.size, hr.glob⟩⟩
  obtain ⟨b, κ, ob, a1, a2, a3, a4⟩ := hr.live k o h1 h2
  exact ⟨b, κ, ob, a1, by rw [hsame b (hlt k o b κ h1 h2 a1)]; exact a2, a3, a4⟩

/-- the laid variables that the run knows: rows that are only read, at their numbers -/
def Laid (t : T AO) (W : World) : Prop := ∀ k o, t.get k = some o → k < 1000 ∧ o.ro = true ∧ ∃ ob, W.heap[k]? = some ob ∧ ORel sg0 0 o ob
theorem Laid.leaf (W : World) : Laid .leaf W := fun k o hk => by rw [T.get_leaf] at hk; cases hk
theorem toldL {P : Program} {tab : Tab} (ht : TabOk P tab) (hm : P.follows .mixedOrders = true) {g : FuncId} {n : Nat} {t : T AO} {W : World} (hG : Laid t W)
    (hc : isTrue (callA P tab (codeQ P tab n) g [] ⟨t, 1000⟩) = true) : Calls P g #[] W fun e w' => e = .returned (.bool true) ∧ Below W.heap.size W w' := by
  rw [codeQ_eq] at hc
  obtain ⟨h', hc⟩ := isTrue_inv hc
  have hr := HR.start (h0 := ⟨t, 1000⟩) rfl hG
  have h1 := callA_sound ht (codeA_sound ht hm n) hr (us := []) LR.nil hc 0
  rw [FW_none] at h1
  refine (callsIn_wide.1 h1).mono ?_
  rintro e w' ⟨u, σ', rfl, hu, hst⟩
  exact ⟨by rw [hu.atom_inv rfl], hst.low hr⟩

theorem and_of {a b : Bool} (h : (a && b) = true) : a = true ∧ b = true := by cases a <;> cases b <;> simp_all
/-- a tree of what a list tells -/
noncomputable def mkT {α : Type} : List (Nat × α) → T α
  | [] => .leaf
  | (k, o) :: l => match T.setO 60 (mkT l) k o with | some t => t | none => mkT l
theorem mkT_get {α : Type} : ∀ (l : List (Nat × α)) (k : Nat) (o : α), (mkT l).get k = some o → (k, o) ∈ l
  | [], k, o, h => by
    have h : (T.leaf : T α).get k = some o := h
    rw [T.get_leaf] at h; cases h
  | (k0, o0) :: l, k, o, h => by
    simp only [mkT] at h
    split at h
    · rename_i t ht
      rw [T.get_setO o0 60 _ t k0 ht k] at h
      by_cases hk : k = k0
      · rw [if_pos hk] at h
        injection h with h; subst h; subst hk
        exact List.mem_cons_self
      · rw [if_neg hk] at h
        exact List.mem_cons_of_mem _ (mkT_get l k o h)
    · exact List.mem_cons_of_mem _ (mkT_get l k o h)

/-- two variables of two cells each, at their numbers -/
noncomputable def heapP (k0 k1 : Nat) (a0 b0 a1 b1 : Value) (e0 e1 : TypeId) : T AO := mkT [(k0, pairRow a0 b0 e0), (k1, pairRow a1 b1 e1)]
theorem heapP_ok {k0 k1 : Nat} {a0 b0 a1 b1 : Value} {e0 e1 : TypeId} {W : World} {ob0 ob1 : Obj} (g0 : k0 < 1000) (g1 : k1 < 1000) (h0 : W.heap[k0]? = some ob0) (r0 : ORel sg0 0 (pairRow a0 b0 e0) ob0) (h1 : W.heap[k1]? = some ob1) (r1 : ORel sg0 0 (pairRow a1 b1 e1) ob1) :
    Laid (heapP k0 k1 a0 b0 a1 b1 e0 e1) W := by
  intro k o hk
  have := mkT_get _ k o hk
  simp only [List.mem_cons, Prod.mk.injEq, List.not_mem_nil, or_false] at this
  rcases this with ⟨rfl, rfl⟩ | ⟨rfl, rfl⟩
  · exact ⟨g0, rfl, ob0, h0, r0⟩
  · exact ⟨g1, rfl, ob1, h1, r1⟩
end Go.Proofs.YtflnpcgnenhogaaDoor.ev

namespace Go.Proofs.YtflnpcgnenhogaaDoor.ev
open Go Go.RowKit
noncomputable section

/-! ### a call at a known state: what it comes to -/
def opEq {α : Type} (eq : α → α → Bool) : Option α → Option α → Bool
  | none, none => true
  | some a, some b => eq a b
  | _, _ => false
def T.eqB {α : Type} (eq : α → α → Bool) : T α → T α → Bool
  | .leaf, .leaf => true
  | .node l v r, .node l' v' r' => T.eqB eq l l' && opEq eq v v' && T.eqB eq r r'
  | _, _ => false
theorem T.eqB_eq {α : Type} {eq : α → α → Bool} (he : ∀ a b, eq a b = true → a = b) : ∀ (t u : T α), T.eqB eq t u = true → t = u
  | .leaf, .leaf, _ => rfl
  | .leaf, .node .., h => by cases h
  | .node .., .leaf, h => by cases h
  | .node l v r, .node l' v' r', h => by
    have h : (T.eqB eq l l' && opEq eq v v' && T.eqB eq r r') = true := h
    obtain ⟨h, h3⟩ := and_of h
    obtain ⟨h1, h2⟩ := and_of h
    rw [T.eqB_eq he l l' h1, T.eqB_eq he r r' h3]
    cases v with
    | none => cases v' with
      | none => rfl
      | some b => cases h2
    | some a => cases v' with
      | none => cases h2
      | some b => rw [he a b h2]
def meEq (a b : MapEntry) : Bool := veq 7 a.key b.key && veq 7 a.val b.val && Nat.beq a.born b.born
def mesEq : List MapEntry → List MapEntry → Bool
  | [], [] => true
  | a :: aas, b :: bs => meEq a b && mesEq aas bs
  | _, _ => false
def lzEq : Option Nat → Option Nat → Bool
  | none, none => true
  | some a, some b => Nat.beq a b
  | _, _ => false
def boolEq : Bool → Bool → Bool
  | true, true => true
  | false, false => true
  | _, _ => false
def aoEq : AO → AO → Bool
  | .row n c d e lz wr, .row n' c' d' e' lz' wr' => Nat.beq n n' && veq 7 d d' && Nat.beq e e' && lzEq lz lz' && boolEq wr wr' && T.eqB (veq 7) c c'
  | .map es k, .map es' k' => mesEq es es' && Nat.beq k k'
  | .dead, .dead => true
  | _, _ => false
theorem mesEq_eq : ∀ (aas bs : List MapEntry), mesEq aas bs = true → aas = bs
  | [], [], _ => rfl
  | [], _ :: _, h => by cases h
  | _ :: _, [], h => by cases h
  | a :: aas, b :: bs, h => by
    obtain ⟨h1, h2⟩ := and_of (show (meEq a b && mesEq aas bs) = true from h)
    obtain ⟨h1, h3⟩ := and_of (show (veq 7 a.key b.key && veq 7 a.val b.val && Nat.beq a.born b.born) = true from h1)
    obtain ⟨h1, h4⟩ := and_of h1
    rw [mesEq_eq aas bs h2]
    obtain ⟨k, v, c⟩ := a
    obtain ⟨k', v', c'⟩ := b
    have e1 := veq_eq _ _ _ h1
    have e2 := veq_eq _ _ _ h4
    have e3 := beq_of h3
    simp only at e1 e2 e3
    rw [e1, e2, e3]
theorem aoEq_eq : ∀ (a b : AO), aoEq a b = true → a = b := by
  intro a b h
  cases a with
  | row n c d e lz wr =>
    cases b with
    | row n' c' d' e' lz' wr' =>
      obtain ⟨h, h6⟩ := and_of (show (Nat.beq n n' && veq 7 d d' && Nat.beq e e' && lzEq lz lz' && boolEq wr wr' && T.eqB (veq 7) c c') = true from h)
      obtain ⟨h, h5⟩ := and_of h
      obtain ⟨h, h4⟩ := and_of h
      obtain ⟨h, h3⟩ := and_of h
      obtain ⟨h1, h2⟩ := and_of h
      rw [beq_of h1, veq_eq _ _ _ h2, beq_of h3, T.eqB_eq (veq_eq 7) _ _ h6]
      have e4 : lz = lz' := by
        cases lz with
        | none => cases lz' with
          | none => rfl
          | some b => cases h4
        | some a => cases lz' with
          | none => cases h4
          | some b => rw [beq_of h4]
      have e5 : wr = wr' := by cases wr <;> cases wr' <;> first | rfl | cases h5
      rw [e4, e5]
    | _ => cases h
  | map es k =>
    cases b with
    | map es' k' =>
      obtain ⟨h1, h2⟩ := and_of (show (mesEq es es' && Nat.beq k k') = true from h)
      rw [mesEq_eq _ _ h1, beq_of h2]
    | _ => cases h
  | dead => cases b <;> first | rfl | cases h
  | _ => cases b <;> cases h

structure Sum where
  nx : Nat
  args : List Value
  pre : List (Nat × AO)
  v : Value
  nx' : Nat
  post : List (Nat × AO)
def holds (h : H) : List (Nat × AO) → Bool
  | [] => true
  | (k, o) :: l => (match h.heap.get k with | some o' => aoEq o' o | none => false) && holds h l
theorem holds_get {h : H} : ∀ (l : List (Nat × AO)), holds h l = true → ∀ k o, (k, o) ∈ l → h.heap.get k = some o
  | [], _, _, _, hm => by cases hm
  | (k0, o0) :: l, hh, k, o, hm => by
    obtain ⟨h1, h2⟩ := and_of (show ((match h.heap.get k0 with | some o' => aoEq o' o0 | none => false) && holds h l) = true from hh)
    rcases List.mem_cons.1 hm with hm | hm
    · injection hm with e1 e2; subst e1; subst e2
      split at h1
      · rename_i o' ho'
        rw [ho', aoEq_eq _ _ h1]
      · cases h1
    · exact holds_get l h2 k o hm
def inKeys (k : Nat) : List (Nat × AO) → Bool
  | [] => false
  | (j, _) :: l => Nat.beq j k || inKeys k l
/-- what stands ahead and isn't among what is told behind is aas it was -/
def keptB (post : List (Nat × AO)) (h : H) : List (Nat × AO) → Bool
  | [] => true
  | (k, o) :: l => (inKeys k post || (match h.heap.get k with | some o' => aoEq o' o | none => false)) && keptB post h l
theorem keptB_get {post : List (Nat × AO)} {h : H} : ∀ (l : List (Nat × AO)), keptB post h l = true → ∀ k o, (k, o) ∈ l → inKeys k post = true ∨ h.heap.get k = some o
  | [], _, _, _, hm => by cases hm
  | (k0, o0) :: l, hh, k, o, hm => by
    obtain ⟨h1, h2⟩ := and_of (show ((inKeys k0 post || (match h.heap.get k0 with | some o' => aoEq o' o0 | none => false)) && keptB post h l) = true from hh)
    rcases List.mem_cons.1 hm with hm | hm
    · injection hm with e1 e2; subst e1; subst e2
      cases hi : inKeys k post with
      | true => exact .inl rfl
      | false =>
        rw [hi] at h1
        simp only [Bool.false_or] at h1
        split at h1
        · rename_i o' ho'
          rw [ho', aoEq_eq _ _ h1]; exact .inr rfl
        · cases h1
    · exact keptB_get l h2 k o hm
def putAll : List (Nat × AO) → T AO → Option (T AO)
  | [], t => some t
  | (k, o) :: l, t => match putAll l t with
    | some t' => T.setO 60 t' k o
    | none => none
theorem putAll_get : ∀ (l : List (Nat × AO)) (t t' : T AO), putAll l t = some t' → ∀ k o, t'.get k = some o → (k, o) ∈ l ∨ (inKeys k l = false ∧ t.get k = some o)
  | [], t, t', h, k, o, hk => by injection h with h; subst h; exact .inr ⟨rfl, hk⟩
  | (k0, o0) :: l, t, t', h, k, o, hk => by
    simp only [putAll] at h
    split at h
    · rename_i t1 h1
      rw [T.get_setO o0 60 _ t' k0 h k] at hk
      by_cases he : k = k0
      · rw [if_pos he] at hk
        injection hk with hk; subst hk; subst he
        exact .inl List.mem_cons_self
      · rw [if_neg he] at hk
        rcases putAll_get l t t1 h1 k o hk with g | ⟨g1, g2⟩
        · exact .inl (List.mem_cons_of_mem _ g)
        · exact .inr ⟨by show (Nat.beq k0 k || inKeys k l) = false; rw [g1, beq_no (Ne.symm he)]; rfl, g2⟩
    · cases h
/-- what is known stays known -/
theorem putAll_has : ∀ (l : List (Nat × AO)) (t t' : T AO), putAll l t = some t' → ∀ k o, t.get k = some o → ∃ o', t'.get k = some o'
  | [], t, t', h, k, o, hk => by injection h with h; subst h; exact ⟨o, hk⟩
  | (k0, o0) :: l, t, t', h, k, o, hk => by
    simp only [putAll] at h
    split at h
    · rename_i t1 h1
      rw [T.get_setO o0 60 _ t' k0 h k]
      by_cases he : k = k0
      · rw [if_pos he]; exact ⟨_, rfl⟩
      · rw [if_neg he]; exact putAll_has l t t1 h1 k o hk
    · cases h
/-- laid variables of two cells: their rows, what types they bear -/
def layL : List (Nat × Value × Value) → List TypeId → List (Nat × AO)
  | (k, a, b) :: l, e :: es => (k, pairRow a b e) :: layL l es
  | _, _ => []
def rowE (h : H) (k : Nat) (a b : Value) : Option TypeId := match h.heap.get k with
  | some (.row 2 c d e none false) => bif T.eqB (veq 1) c (.node (.node .leaf (some b) .leaf) (some a) .leaf) && veq 1 d undef then some e else none
  | _ => none
theorem rowE_get {h : H} {k : Nat} {a b : Value} {e : TypeId} (hh : rowE h k a b = some e) : h.heap.get k = some (pairRow a b e) := by
  unfold rowE at hh
  split at hh
  · rename_i c d e' hk
    cases hb : T.eqB (veq 1) c (.node (.node .leaf (some b) .leaf) (some a) .leaf) && veq 1 d undef with
    | false => rw [hb] at hh; cases hh
    | true =>
      rw [hb] at hh
      injection hh with hh; subst hh
      obtain ⟨h1, h2⟩ := and_of hb
      rw [hk, T.eqB_eq (veq_eq 1) _ _ h1, veq_eq _ _ _ h2]
      rfl
  · cases hh
def rowsE (h : H) : List (Nat × Value × Value) → Option (List TypeId)
  | [] => some []
  | (k, a, b) :: l => match rowE h k a b, rowsE h l with
    | some e, some es => some (e :: es)
    | _, _ => none
theorem rowsE_get {h : H} : ∀ (l : List (Nat × Value × Value)) (es : List TypeId), rowsE h l = some es → ∀ k o, (k, o) ∈ layL l es → h.heap.get k = some o
  | [], es, _, k, o, hm => by cases es <;> cases hm
  | (k0, a, b) :: l, es, hh, k, o, hm => by
    simp only [rowsE] at hh
    split at hh
    · rename_i e es' h1 h2
      injection hh with hh; subst hh
      rcases List.mem_cons.1 hm with hm | hm
      · injection hm with e1 e2; subst e1; subst e2
        exact rowE_get h1
      · exact rowsE_get l es' h2 k o hm
    · cases hh
theorem rowsE_length {h : H} : ∀ (l : List (Nat × Value × Value)) (es : List TypeId), rowsE h l = some es → es.length = l.length
  | [], es, hh => by injection hh with hh; subst hh; rfl
  | (k0, a, b) :: l, es, hh => by
    simp only [rowsE] at hh
    split at hh
    · rename_i e es' h1 h2
      injection hh with hh; subst hh
      simp [rowsE_length l es' h2]
    · cases hh
def Sum.ans (L : List (Nat × Value × Value)) (s : Sum) (args : List Value) (h : H) : Option (Value × H) :=
  bif Nat.beq h.next s.nx then
    (bif allEq (veq 7) args s.args && holds h s.pre then (match rowsE h L with
      | some _ => (match putAll s.post h.heap with | some t => some (s.v, ⟨t, s.nx'⟩) | none => none)
      | none => none) else none)
  else none
def Sum.run (P : Program) (tab : Tab) (n : Nat) (g : FuncId) (L : List (Nat × Value × Value)) (s : Sum) (es : List TypeId) : Bool × Option (List TypeId) :=
  match callA P tab (codeQ P tab n) g s.args ⟨mkT (layL L es ++ s.pre), s.nx⟩ with
  | some (v, h1) => (veq 7 v s.v && Nat.beq h1.next s.nx' && holds h1 s.post && keptB s.post h1 s.pre, rowsE h1 L)
  | none => (false, none)
theorem Sum.ok {P : Program} {tab : Tab} (ht : TabOk P tab) (hm : P.follows .mixedOrders = true) {n : Nat} {g : FuncId} {L : List (Nat × Value × Value)} {s : Sum} (hs : ∀ es, es.length = L.length → s.run P tab n g L es = (true, some es)) : AnsOk P g (s.ans L) := by
  intro args h v h' ha B σ us w m hr hl
  unfold Sum.ans at ha
  cases c1 : Nat.beq h.next s.nx with
  | false => rw [c1] at ha; cases ha
  | true =>
    rw [c1] at ha
    simp only [cond_true] at ha
    cases c2 : (allEq (veq 7) args s.args && holds h s.pre) with
    | false => rw [c2] at ha; cases ha
    | true =>
      rw [c2] at ha
      simp only [cond_true] at ha
      obtain ⟨c2, c3⟩ := and_of c2
      have hn := beq_of c1
      have e2 := allEq_eq (veq_eq 7) _ _ c2
      subst e2
      split at ha
      · rename_i es hes
        split at ha
        · rename_i t hp
          simp only [Option.some.injEq, Prod.mk.injEq] at ha
          obtain ⟨rfl, rfl⟩ := ha
          have hs := hs es (rowsE_length _ _ hes)
          unfold Sum.run at hs
          split at hs
          · rename_i v1 h1 hc
            simp only [Prod.mk.injEq] at hs
            obtain ⟨hs, k5⟩ := hs
            obtain ⟨hs, k4⟩ := and_of hs
            obtain ⟨hs, k3⟩ := and_of hs
            obtain ⟨k1, k2⟩ := and_of hs
            have k1 := veq_eq _ _ _ k1
            have k2 := beq_of k2
            subst k1
            have hsub : ∀ k o, (mkT (layL L es ++ s.pre)).get k = some o → h.heap.get k = some o := fun k o hk => by
              rcases List.mem_append.1 (mkT_get _ k o hk) with g | g
              · exact rowsE_get _ _ hes k o g
              · exact holds_get _ c3 k o g
            have hr1 : HR B σ (⟨mkT (layL L es ++ s.pre), s.nx⟩ : H).heap.get (⟨mkT (layL L es ++ s.pre), s.nx⟩ : H).next w := by
              have := hr.sub hsub
              rw [hn] at this
              exact this
            rw [codeQ_eq] at hc
            have hcall := callA_sound ht (codeA_sound ht hm n) hr1 hl hc m
            rw [FW_none] at hcall
            refine hcall.mono ?_
            rintro e w' ⟨u, σ', rfl, hu, hst⟩
            refine ⟨u, σ', rfl, hu, ?_⟩
            have hst : Step B σ (mkT (layL L es ++ s.pre)).get s.nx w σ' h1.heap.get h1.next w' := hst
            rw [← hn] at hst
            have hf := hst.frame hr hsub
            rw [k2] at hf
            show Step B σ h.heap.get h.next w σ' t.get s.nx' w'
            refine hf.less (fun k o hk => ?_) fun k o hk => putAll_has _ _ _ hp k o hk
            rcases putAll_get _ _ _ hp k o hk with g | ⟨g1, g2⟩
            · simp only [holds_get _ k3 k o g]
            · cases hh : h1.heap.get k with
              | none => exact g2
              | some o1 =>
                show some o1 = some o
                rw [← hh]
                have hlt : k < h.next := by
                  rcases Nat.lt_or_ge k h.next with h' | h'
                  · exact h'
                  · rw [(hr.fresh k h').2] at g2; cases g2
                cases hpre : (mkT (layL L es ++ s.pre)).get k with
                | none => rw [hst.keepN k hlt hpre] at hh; cases hh
                | some o2 =>
                  have e1 := hsub k o2 hpre
                  rw [g2] at e1; injection e1 with e1; subst e1
                  rcases List.mem_append.1 (mkT_get _ k o hpre) with x | x
                  · exact rowsE_get _ _ k5 k o x
                  · rcases keptB_get _ k4 k o x with x | x
                    · rw [g1] at x; cases x
                    · exact x
          · cases hs
        · cases ha
      · cases ha
/-! ### short words for states that are written out -/
def vi (k : IntKind) (n : Nat) : Value := .int k (.ofNat n)
def vb (n : Nat) : Value := .int .u8 (.ofNat n)
def vj (n : Nat) : Value := .int .i64 (.ofNat n)
def vs (l : List Nat) : Value := .string ⟨⟨l.map UInt8.ofNat⟩⟩
def vl (k o d n : Nat) : Value := .slice (some ⟨k, o, some d⟩) n 0
def v0 : Value := .slice none 0 0
def ty (l : T Value) (v : Value) (r : T Value) : T Value := .node l (some v) r
end
end Go.Proofs.YtflnpcgnenhogaaDoor.ev

namespace Go.Proofs.YtflnpcgnenhogaaDoor.ev
open Go Go.RowKit
noncomputable section

/-! ### calls of the library that are known: the text builder's copy check and its string; a text repeated -/
theorem ptr_inv {σ : Sg} {k o : Nat} {u : Value} (h : VR σ (.pointer (some ⟨k, o, none⟩)) u) : ∃ b κ, σ k = some (b, κ) ∧ u = .pointer (some ⟨b, o, none⟩) := by
  cases h with
  | atom h => simp [flatN] at h
  | ptr h => exact ⟨_, _, h, rfl⟩

--ORACLES
section
variable {P : Program} {g : FuncId} {tb u8 : TypeId}
end
end
end Go.Proofs.YtflnpcgnenhogaaDoor.ev
namespace Go.Proofs.YtflnpcgnenhogaaDoor.ev
open Go Go.RowKit
set_option maxRecDepth 100000

theorem list_awake_run (e0 e1 : TypeId) : isTrue (callA Tryd.prog (tabP Tryd.prog) (codeQ Tryd.prog (tabP Tryd.prog) 1000000) 18 [] ⟨heapP 0 1 (.int .u8 1) (.int .u64 0) (.int .u8 0) (.int .u64 0) e0 e1, 1000⟩) = true := by kernel_rfl
theorem list_awake (w : World) (e0 e1 : TypeId) (ob0 ob1 : Obj) (h0 : w.heap[0]? = some ob0) (r0 : ORel sg0 0 (pairRow (.int .u8 1) (.int .u64 0) e0) ob0) (h1 : w.heap[1]? = some ob1) (r1 : ORel sg0 0 (pairRow (.int .u8 0) (.int .u64 0) e1) ob1) :
    Calls Tryd.prog 18 #[] w fun e w' => e = .returned (.bool true) ∧ Below w.heap.size w w' :=
  toldL (n := 1000000) (tabP_ok (by kernel_rfl)) (by kernel_rfl) (heapP_ok (by decide) (by decide) h0 r0 h1 r1) (list_awake_run e0 e1)
end Go.Proofs.YtflnpcgnenhogaaDoor.ev
namespace Go.Proofs.YtflnpcgnenhogaaDoor.own
open Go.RowKit

theorem append_where {P : Program} (w : World) (base : Nat) (t ty e : TypeId) (i : TypeInfo) (z : Value) (size bytes : Nat) (ht : P.underlying t = some (.slice e)) (hi : P.info? e = some i) (hz : i.zero = some z)
    (hsize : i.size = size) (hby : i.bytes = bytes)
    (v : Value) (n : Nat) (xs : List Value) (hown : w.ownsRow base e size v n xs)
    (a : Addr) (m c : Nat) (news : List Value) (hl : news.length = m * size) (hnews : ∀ j u, news[j]? = some u → w.cell? (a.add j) = some u) (h1 : ∀ u ∈ news, u.oneCell' = true)
    (h63 : n + m ≤ maxLen) (hbytes : (n + m) * bytes ≤ 140737488355328) (hm0 : 0 < m) {v' : Value} {w' : World}
    (hrun : (Builtin.append_ #[t, t] ty #[v, .slice (some a) m c]).run P w = .ok v' w') : v'.ownBlock = v.ownBlock ∨ v'.ownBlock = some w.heap.size := by
  subst hsize
  subst hby
  unfold maxLen at h63
  rcases hown.2 with ⟨rfl, rfl⟩ | ⟨g, cap, cur, rfl, hbg, hg, hnc, hcm, hcs, htake⟩
  · have hr := run_append_nil (P := P) w t ty e i z ht hi hz a m c news hl hnews hm0 (by omega) (by simp only [Nat.zero_add] at hbytes; omega)
    rw [hr] at hrun
    injection hrun with h2 _
    subst h2
    exact .inr rfl
  · by_cases hroom : n + m ≤ cap
    · have hfit : n * i.size + news.length ≤ cur.size := by rw [hl, hcs, ← Nat.add_mul]; exact Nat.mul_le_mul_right _ hroom
      have hr := run_append_room (P := P) w t ty e i ht hi g n cap cur hg a m c news hl hnews h1 hroom hfit
      rw [hr] at hrun
      injection hrun with h2 _
      subst h2
      exact .inl rfl
    · have holds : ∀ j u, xs[j]? = some u → w.cell? ((⟨g, 0, none⟩ : Addr).add j) = some u := hown.cells (g := g) rfl
      have hr := run_append_grow (P := P) w t ty e i z ht hi hz ⟨g, 0, none⟩ n cap xs hown.1 holds a m c news hl hnews (by omega) (by omega) (growslice_fits (by omega) hbytes)
      rw [hr] at hrun
      injection hrun with h2 _
      subst h2
      exact .inr rfl

/-- append to a row that the call owns: as the library's law, and where the result lies -/
theorem wpList_append_at {P : Program} (w : World) {ops : Array Oper} {rest : List Oper} {o : Oper} {a : Act} {Q : Exit → Act → World → Prop} (hgd : o.guard = none) (s x : Operand) (t : TypeId)
    (ho : o.op = .call { callee := .builtin .append, args := #[s, x], argTypes := #[t, t] })
    (base : Nat) (e : TypeId) (i : TypeInfo) (z : Value) (size bytes : Nat) (ht : P.underlying t = some (.slice e)) (hi : P.info? e = some i) (hz : i.zero = some z)
    (hsize : i.size = size) (hby : i.bytes = bytes) (hzs : z.cells.size = size) (hsz : 0 < size)
    (v : Value) (n : Nat) (xs : List Value) (hs : a.eval s = v) (hown : w.ownsRow base e size v n xs)
    (ad : Addr) (m c : Nat) (news : List Value) (hx : a.eval x = .slice (some ad) m c) (hl : news.length = m * size) (hnews : ∀ j u, news[j]? = some u → w.cell? (ad.add j) = some u) (h1 : ∀ u ∈ news, u.oneCell' = true)
    (h63 : n + m ≤ maxLen) (hbytes : (n + m) * bytes ≤ 140737488355328) (hbase : base ≤ w.heap.size) (hm0 : 0 < m)
    (h : ∀ v' w', w'.ownsRow base e size v' (n + m) (xs ++ news) → w.grownBy w' v.ownBlock → (v'.ownBlock = v.ownBlock ∨ v'.ownBlock = some w.heap.size) → wpList P ops Q rest (a.put o.dst v') w') :
    wpList P ops Q (o :: rest) a w := by
  refine wpList_plain hgd fun K hK => ?_
  obtain ⟨v', w', hr, h2, h3, _⟩ := run_append_own (P := P) w base t o.type e i z size bytes ht hi hz hsize hby hzs hsz v n xs hown ad m c news hl hnews h1 h63 hbytes hbase
  have h4 := append_where w base t o.type e i z size bytes ht hi hz hsize hby v n xs hown ad m c news hl hnews h1 h63 hbytes hm0 hr
  unfold Oper.wp execOp
  simp only [ho, resolve, invoke, builtin, Sem.run_bind, Sem.run_pure, Result.andThen_ok, List.map_toArray, List.map_cons, List.map_nil, hs, hx, hr]
  exact hK _ _ (h v' w' h2 h3 h4)

theorem own_shape {w : World} {base : Nat} {e : TypeId} {size n : Nat} {v : Value} {xs : List Value} (h : w.ownsRow base e size v n xs) : ∃ a cap, v = .slice a n cap := by
  rcases h.2 with ⟨rfl, rfl⟩ | ⟨g, cap, cur, rfl, _⟩
  · exact ⟨_, _, rfl⟩
  · exact ⟨_, _, rfl⟩

theorem own_base {w : World} {base base' : Nat} {e : TypeId} {size n : Nat} {v : Value} {xs : List Value} (h : w.ownsRow base e size v n xs) (hb : base' ≤ base) : w.ownsRow base' e size v n xs := by
  refine ⟨h.1, ?_⟩
  rcases h.2 with h2 | ⟨g, cap, cur, hv, hg, r⟩
  · exact .inl h2
  · exact .inr ⟨g, cap, cur, hv, Nat.le_trans hb hg, r⟩
/-- a row's base is what its block is not below -/
theorem own_rebase {w : World} {base base' : Nat} {e : TypeId} {size n : Nat} {v : Value} {xs : List Value} (h : w.ownsRow base e size v n xs) (hb : ∀ g, v.ownBlock = some g → base' ≤ g) : w.ownsRow base' e size v n xs := by
  refine ⟨h.1, ?_⟩
  rcases h.2 with h2 | ⟨g, cap, cur, hv, hg, r⟩
  · exact .inl h2
  · exact .inr ⟨g, cap, cur, hv, hb g (by rw [hv]; rfl), r⟩
theorem own_below {w w' : World} {base : Nat} {e : TypeId} {size n : Nat} {v : Value} {xs : List Value} (h : w.ownsRow base e size v n xs) (hb : Below w.heap.size w w') : w'.ownsRow base e size v n xs :=
  h.kept (row := none) ⟨hb.os, hb.tape, hb.output, hb.size, fun k hk _ => hb.block k hk⟩ (by cases v.ownBlock <;> simp)

/-! ### frames by colour: every block bears a colour; a call may turn blocks of the colours C alone, and what it makes bears one of these -/
structure Fr (x x' : Nat → Nat) (C : Nat → Prop) (w w' : World) : Prop where
  os : w'.os = w.os
  tape : w'.tape = w.tape
  output : w'.output = w.output
  size : w.heap.size ≤ w'.heap.size
  col : ∀ b, b < w.heap.size → x' b = x b
  new : ∀ b, w.heap.size ≤ b → b < w'.heap.size → C (x' b)
  old : ∀ b, b < w.heap.size → ¬ C (x b) → w'.heap[b]? = w.heap[b]?

theorem Fr.refl (x : Nat → Nat) (C : Nat → Prop) (w : World) : Fr x x C w w := ⟨rfl, rfl, rfl, Nat.le_refl _, fun _ _ => rfl, fun b h1 h2 => by omega, fun _ _ _ => rfl⟩
theorem Fr.trans {x x' x'' : Nat → Nat} {C : Nat → Prop} {w w' w'' : World} (h : Fr x x' C w w') (k : Fr x' x'' C w' w'') : Fr x x'' C w w'' := by
  refine ⟨k.os.trans h.os, k.tape.trans h.tape, k.output.trans h.output, Nat.le_trans h.size k.size, fun b hb => (k.col b (Nat.lt_of_lt_of_le hb h.size)).trans (h.col b hb), fun b h1 h2 => ?_, fun b hb hC => ?_⟩
  · rcases Nat.lt_or_ge b w'.heap.size with hlt | hge
    · rw [k.col b hlt]; exact h.new b h1 hlt
    · exact k.new b hge h2
  · rw [k.old b (Nat.lt_of_lt_of_le hb h.size) (by rw [h.col b hb]; exact hC)]
    exact h.old b hb hC
theorem Fr.mono {x x' : Nat → Nat} {C D : Nat → Prop} {w w' : World} (h : Fr x x' C w w') (hD : ∀ c, C c → D c) : Fr x x' D w w' :=
  ⟨h.os, h.tape, h.output, h.size, h.col, fun b h1 h2 => hD _ (h.new b h1 h2), fun b hb hC => h.old b hb (fun hc => hC (hD _ hc))⟩
/-- new blocks coloured c -/
def paint (x : Nat → Nat) (n c : Nat) : Nat → Nat := fun b => if b < n then x b else c
theorem paint_old {x : Nat → Nat} {n c b : Nat} (h : b < n) : paint x n c b = x b := if_pos h
theorem paint_new {x : Nat → Nat} {n c b : Nat} (h : n ≤ b) : paint x n c b = c := if_neg (by omega)
/-- what is only new blocks is a frame -/
theorem Fr.of_below {x : Nat → Nat} {C : Nat → Prop} {w w' : World} (h : Below w.heap.size w w') {c : Nat} (hc : C c) : Fr x (paint x w.heap.size c) C w w' :=
  ⟨h.os, h.tape, h.output, h.size, fun _ hb => paint_old hb, fun b h1 _ => by rw [paint_new h1]; exact hc, fun b hb _ => h.block b hb⟩
theorem Fr.same {x : Nat → Nat} {C : Nat → Prop} {w w' : World} (h1 : w'.os = w.os) (h2 : w'.tape = w.tape) (h3 : w'.output = w.output) (h4 : w'.heap.size = w.heap.size) (h5 : ∀ b, b < w.heap.size → ¬ C (x b) → w'.heap[b]? = w.heap[b]?) : Fr x x C w w' :=
  ⟨h1, h2, h3, by omega, fun _ _ => rfl, fun b a1 a2 => by omega, h5⟩
/-- a world reached by steps: only blocks of the rows R turn, the rest is new -/
theorem Fr.of_steps {x : Nat → Nat} {C : Nat → Prop} {w w' : World} (h1 : w'.os = w.os) (h2 : w'.tape = w.tape) (h3 : w'.output = w.output) (h4 : w.heap.size ≤ w'.heap.size) {c : Nat} (hc : C c) (h5 : ∀ b, b < w.heap.size → ¬ C (x b) → w'.heap[b]? = w.heap[b]?) : Fr x (paint x w.heap.size c) C w w' :=
  ⟨h1, h2, h3, h4, fun _ hb => paint_old hb, fun b a1 _ => by rw [paint_new a1]; exact hc, h5⟩

/-- steps of a walk, block by block: all blocks below n but those of S are as they were -/
structure Keeps (w w' : World) (S : Nat → Prop) : Prop where
  os : w'.os = w.os
  tape : w'.tape = w.tape
  output : w'.output = w.output
  size : w.heap.size ≤ w'.heap.size
  block : ∀ b, b < w.heap.size → ¬ S b → w'.heap[b]? = w.heap[b]?
theorem Keeps.refl (w : World) (S : Nat → Prop) : Keeps w w S := ⟨rfl, rfl, rfl, Nat.le_refl _, fun _ _ _ => rfl⟩
theorem Keeps.alloc {w w' : World} {S : Nat → Prop} (h : Keeps w w' S) (o : Obj) : Keeps w (w'.alloc o) S :=
  ⟨h.os, h.tape, h.output, Nat.le_trans h.size (by simp), fun b hb hS => (Below.heap_alloc w' o b (Nat.lt_of_lt_of_le hb h.size)).trans (h.block b hb hS)⟩
theorem Keeps.drew {w w' : World} {S : Nat → Prop} (h : Keeps w w' S) : Keeps w w'.drew S := ⟨h.os, h.tape, h.output, h.size, h.block⟩
theorem Keeps.drewN {w w' : World} {S : Nat → Prop} (h : Keeps w w' S) (n : Nat) : Keeps w (w'.drewN n) S := ⟨h.os, h.tape, h.output, h.size, h.block⟩
theorem Keeps.setCell {w w' : World} {S : Nat → Prop} (h : Keeps w w' S) {p : Addr} (hp : S p.block ∨ w.heap.size ≤ p.block) (u : Value) : Keeps w (w'.setCell p u) S :=
  ⟨h.os, h.tape, h.output, by simpa [World.setCell] using h.size, fun b hb hS => (Below.heap_setCell w' p u b (by
    rintro rfl
    rcases hp with hp | hp
    · exact hS hp
    · omega)).trans (h.block b hb hS)⟩
theorem Keeps.grown {w w' w'' : World} {S : Nat → Prop} {row : Option Nat} (h : Keeps w w' S) (hg : w'.grownBy w'' row) (hr : ∀ k, row = some k → S k ∨ w.heap.size ≤ k) : Keeps w w'' S :=
  ⟨hg.os.trans h.os, hg.tape.trans h.tape, hg.output.trans h.output, Nat.le_trans h.size hg.size, fun b hb hS => (hg.block b (Nat.lt_of_lt_of_le hb h.size) (fun e => by
    rcases hr b e.symm with h1 | h1
    · exact hS h1
    · omega)).trans (h.block b hb hS)⟩
theorem Keeps.fr {x : Nat → Nat} {C : Nat → Prop} {w w' : World} {S : Nat → Prop} (h : Keeps w w' S) {c : Nat} (hc : C c) (hS : ∀ b, b < w.heap.size → S b → C (x b)) : Fr x (paint x w.heap.size c) C w w' :=
  Fr.of_steps h.os h.tape h.output h.size hc (fun b hb hC => h.block b hb (fun hs => hC (hS b hb hs)))

/-! ### many cells written -/
theorem setCells_row (b : Nat) (t : TypeId) : ∀ (vs : List Value) (o : Nat) (w : World) (cur : Array Value), w.heap[b]? = some (.cells cur t (0, 0)) → o + vs.length ≤ cur.size →
    ∃ cur', (w.setCells b o vs).heap[b]? = some (.cells cur' t (0, 0)) ∧ cur'.size = cur.size ∧ (∀ j, j < o → cur'[j]? = cur[j]?) ∧ ∀ j, j < vs.length → cur'[o + j]? = vs[j]?
  | [], o, w, cur, h, _ => ⟨cur, h, rfl, fun _ _ => rfl, fun j hj => by simp at hj⟩
  | v :: r, o, w, cur, h, hs => by
    simp only [List.length_cons] at hs
    have h1 : (w.setCell ⟨b, o, none⟩ v).heap[b]? = some (.cells (cur.setIfInBounds o v) t (0, 0)) := heap_setCell_same w b o _ _ _ h
    obtain ⟨cur', a1, a2, a3, a4⟩ := setCells_row b t r (o + 1) _ _ h1 (by simp; omega)
    refine ⟨cur', a1, by rw [a2]; simp, fun j hj => ?_, fun j hj => ?_⟩
    · rw [a3 j (by omega), Array.getElem?_setIfInBounds_ne (by omega)]
    · cases j with
      | zero => rw [Nat.add_zero, a3 o (by omega), Array.getElem?_setIfInBounds_self_of_lt (by omega)]; rfl
      | succ j =>
        have := a4 j (by simpa using hj)
        rw [show o + (j + 1) = o + 1 + j from by omega, this]; simp
end Go.Proofs.YtflnpcgnenhogaaDoor.own
namespace Go.Proofs.YtflnpcgnenhogaaDoor.bit

abbrev Bits := List Bool

/-- the number that bits say, the first the greatest -/
def num : Bits → Nat
  | [] => 0
  | b :: r => (if b then 2 ^ r.length else 0) + num r
/-- so many bits of a number -/
def ofN : Nat → Nat → Bits
  | 0, _ => []
  | n + 1, v => (v / 2 ^ n % 2 == 1) :: ofN n v

theorem num_lt (l : Bits) : num l < 2 ^ l.length := by
  induction l with
  | nil => simp [num]
  | cons b r ih =>
    rw [num, List.length_cons, Nat.pow_succ]
    split <;> omega
theorem num_append (a b : Bits) : num (a ++ b) = num a * 2 ^ b.length + num b := by
  induction a with
  | nil => simp [num]
  | cons x r ih =>
    rw [List.cons_append, num, num, ih, List.length_append, Nat.pow_add, Nat.add_mul]
    split <;> simp [Nat.add_assoc]
theorem ofN_length (n v : Nat) : (ofN n v).length = n := by
  induction n with
  | zero => rfl
  | succ n ih => rw [ofN, List.length_cons, ih]
theorem num_ofN (n v : Nat) : num (ofN n v) = v % 2 ^ n := by
  induction n with
  | zero => simp [ofN, num, Nat.mod_one]
  | succ n ih =>
    rw [ofN, num, ih, ofN_length, Nat.pow_succ, Nat.mod_mul]
    rcases Nat.mod_two_eq_zero_or_one (v / 2 ^ n) with h | h <;> rw [h] <;> simp
    omega
theorem ofN_split (a b v : Nat) : ofN (a + b) v = ofN a (v / 2 ^ b) ++ ofN b v := by
  induction a with
  | zero => simp [ofN]
  | succ a ih =>
    rw [Nat.add_right_comm, ofN, ih, ofN, List.cons_append, Nat.div_div_eq_div_mul, ← Nat.pow_add, Nat.add_comm b a]
/-- the byte of eight bits or fewer, the rest of it 0 -/
def byteOf (l : Bits) : Nat := num l * 2 ^ (8 - l.length)
/-- bits as bytes, the last filled with 0 -/
def packN (l : Bits) : List Nat := if _h : l = [] then [] else byteOf (l.take 8) :: packN (l.drop 8)
termination_by l.length
decreasing_by
  have : 0 < l.length := List.length_pos_iff.2 _h
  simp only [List.length_drop]
  omega

theorem packN_nil : packN [] = [] := by rw [packN]; simp
theorem packN_part {l : Bits} (h : 0 < l.length) (h8 : l.length ≤ 8) : packN l = [byteOf l] := by
  rw [packN, dif_neg (by rintro rfl; simp at h), List.take_of_length_le h8, List.drop_eq_nil_of_le h8, packN_nil]
theorem packN_cons {l : Bits} (h : l ≠ []) : packN l = byteOf (l.take 8) :: packN (l.drop 8) := by rw [packN, dif_neg h]
theorem packN_append (q : Nat) : ∀ (a b : Bits), a.length = 8 * q → packN (a ++ b) = packN a ++ packN b := by
  induction q with
  | zero => intro a b h; obtain rfl := List.eq_nil_of_length_eq_zero (by simpa using h : a.length = 0); rw [packN_nil]; rfl
  | succ q ih =>
    intro a b h
    have hne : a ≠ [] := by rintro rfl; simp at h
    rw [packN_cons (l := a ++ b) (by simp [hne]), packN_cons hne, List.take_append_of_le_length (by omega), List.drop_append_of_le_length (by omega), ih _ _ (by rw [List.length_drop]; omega)]
    rfl
theorem packN_length (l : Bits) : (packN l).length = (l.length + 7) / 8 := by
  induction h : l.length using Nat.strongRecOn generalizing l with
  | ind n ih =>
    rw [packN]
    split
    · rename_i h0; subst h0; simp at h; subst h; rfl
    · rename_i h0
      have : 0 < l.length := List.length_pos_iff.2 h0
      rw [List.length_cons, ih (l.drop 8).length (by rw [List.length_drop]; omega) _ rfl, List.length_drop]
      omega
theorem byteOf_lt {l : Bits} (h : l.length ≤ 8) : byteOf l < 256 := by
  have h1 := num_lt l
  unfold byteOf
  calc num l * 2 ^ (8 - l.length) < 2 ^ l.length * 2 ^ (8 - l.length) := Nat.mul_lt_mul_of_pos_right h1 (Nat.pow_pos (by decide))
    _ = 256 := by rw [← Nat.pow_add, Nat.add_sub_cancel' h]
theorem packN_lt (l : Bits) : ∀ x ∈ packN l, x < 256 := by
  induction h : l.length using Nat.strongRecOn generalizing l with
  | ind n ih =>
    intro x hx
    rw [packN] at hx
    split at hx
    · cases hx
    · rename_i h0
      have : 0 < l.length := List.length_pos_iff.2 h0
      rcases List.mem_cons.1 hx with rfl | hx
      · exact byteOf_lt (by rw [List.length_take]; omega)
      · exact ih (l.drop 8).length (by rw [List.length_drop]; omega) _ rfl x hx

/-- more bits within a byte: the new ones are laid into the room -/
theorem byteOf_more (p x : Bits) (h : p.length + x.length ≤ 8) : byteOf (p ++ x) = byteOf p ||| num x <<< (8 - p.length - x.length) := by
  have hx := num_lt x
  have e : byteOf (p ++ x) = byteOf p + num x * 2 ^ (8 - p.length - x.length) := by
    unfold byteOf
    rw [num_append, List.length_append, Nat.add_mul, Nat.mul_assoc, ← Nat.pow_add]
    congr 3 <;> omega
  rw [e, Nat.shiftLeft_eq]
  have hb : byteOf p = 2 ^ (8 - p.length) * num p := by unfold byteOf; rw [Nat.mul_comm]
  have hlt : num x * 2 ^ (8 - p.length - x.length) < 2 ^ (8 - p.length) := by
    calc num x * 2 ^ (8 - p.length - x.length) < 2 ^ x.length * 2 ^ (8 - p.length - x.length) := Nat.mul_lt_mul_of_pos_right hx (Nat.pow_pos (by decide))
      _ = 2 ^ (8 - p.length) := by rw [← Nat.pow_add]; congr 1; omega
  rw [hb]
  exact Nat.two_pow_add_eq_or_of_lt hlt _

/-- the bytes of bits, one more of 0 behind them if the last is whole -/
def padded (l : Bits) : List Nat := if l.length % 8 = 0 then packN l ++ [0] else packN l
theorem padded_step (l y : Bits) (hy : 0 < y.length) (h8 : y.length ≤ 8 - l.length % 8) :
    ∃ H b, padded l = H ++ [b] ∧ b < 256 ∧ packN (l ++ y) = H ++ [b ||| num y <<< (8 - l.length % 8 - y.length)] ∧ H.length = l.length / 8 := by
  have hsplit : l = l.take (8 * (l.length / 8)) ++ l.drop (8 * (l.length / 8)) := (List.take_append_drop _ _).symm
  have hF : (l.take (8 * (l.length / 8))).length = 8 * (l.length / 8) := by rw [List.length_take]; omega
  have hp : (l.drop (8 * (l.length / 8))).length = l.length % 8 := by rw [List.length_drop]; omega
  obtain ⟨F, hFe⟩ : ∃ F, l.take (8 * (l.length / 8)) = F := ⟨_, rfl⟩
  obtain ⟨p, hpe⟩ : ∃ p, l.drop (8 * (l.length / 8)) = p := ⟨_, rfl⟩
  rw [hFe, hpe] at hsplit
  rw [hFe] at hF
  rw [hpe] at hp
  obtain ⟨q, hq⟩ : ∃ q, l.length / 8 = q := ⟨_, rfl⟩
  rw [hq] at hF
  have hFl : (packN F).length = q := by rw [packN_length, hF]; omega
  by_cases h0 : l.length % 8 = 0
  · have hp0 : p = [] := List.eq_nil_of_length_eq_zero (by omega)
    subst hp0
    rw [List.append_nil] at hsplit
    subst hsplit
    refine ⟨packN l, 0, by unfold padded; rw [if_pos h0], by omega, ?_, by rw [hFl]; exact hq.symm⟩
    rw [packN_append q l y hF, packN_part hy (by omega), h0]
    have := byteOf_more [] y (by simpa using (by omega : y.length ≤ 8))
    rw [List.nil_append] at this
    rw [this]
    simp [byteOf, num]
  · refine ⟨packN F, byteOf p, ?_, byteOf_lt (by omega), ?_, by rw [hFl]; exact hq.symm⟩
    · unfold padded
      rw [if_neg h0]
      conv => lhs; rw [hsplit]
      rw [packN_append q F p hF, packN_part (l := p) (by omega) (by omega)]
    · conv => lhs; rw [hsplit]
      rw [List.append_assoc, packN_append q F (p ++ y) hF, packN_part (l := p ++ y) (by rw [List.length_append]; omega) (by rw [List.length_append]; omega), byteOf_more p y (by omega), hp]
/-- so many bits out of the midst of a number -/
theorem ofN_more (a t v m : Nat) (ht : t ≤ m) : ofN a (v / 2 ^ m) ++ ofN t (v / 2 ^ (m - t)) = ofN (a + t) (v / 2 ^ (m - t)) := by
  rw [ofN_split, Nat.div_div_eq_div_mul, ← Nat.pow_add, Nat.sub_add_cancel ht]

/-! ### the bits of bytes -/
def unpack (l : List Nat) : Bits := l.flatMap (ofN 8)
theorem unpack_cons (b : Nat) (r : List Nat) : unpack (b :: r) = ofN 8 b ++ unpack r := rfl
theorem unpack_append (a b : List Nat) : unpack (a ++ b) = unpack a ++ unpack b := List.flatMap_append ..
theorem unpack_length (l : List Nat) : (unpack l).length = 8 * l.length := by
  induction l with
  | nil => rfl
  | cons b r ih => rw [unpack_cons, List.length_append, ih, ofN_length, List.length_cons]; omega
/-- bits within one byte -/
theorem unpack_within (l : List Nat) (a t : Nat) (ha : a / 8 < l.length) (ht : t ≤ 8 - a % 8) :
    ((unpack l).drop a).take t = ofN t (l[a / 8] / 2 ^ (8 - a % 8 - t)) := by
  obtain ⟨q, hq⟩ : ∃ q, a / 8 = q := ⟨_, rfl⟩
  obtain ⟨r, hr⟩ : ∃ r, a % 8 = r := ⟨_, rfl⟩
  have hlt : q < l.length := by omega
  have hs : l = l.take q ++ l[q] :: l.drop (q + 1) := by rw [← List.drop_eq_getElem_cons hlt, List.take_append_drop]
  have hP : (unpack (l.take q)).length = 8 * q := by rw [unpack_length, List.length_take]; omega
  have e : (unpack l).drop a = (ofN 8 l[q] ++ unpack (l.drop (q + 1))).drop r := by
    conv => lhs; rw [hs]
    rw [unpack_append, unpack_cons, List.drop_append, hP, List.drop_eq_nil_of_le (by omega), List.nil_append]
    congr 1
    omega
  subst hq
  rw [hr] at ht ⊢
  rw [e]
  have h8 : ofN 8 l[a / 8] = ofN r (l[a / 8] / 2 ^ (8 - r)) ++ ofN (8 - r) l[a / 8] := by
    have := ofN_split r (8 - r) l[a / 8]
    rw [show r + (8 - r) = 8 by omega] at this
    exact this
  have hd : (ofN 8 l[a / 8] ++ unpack (l.drop (a / 8 + 1))).drop r = ofN (8 - r) l[a / 8] ++ unpack (l.drop (a / 8 + 1)) := by
    rw [h8, List.append_assoc, List.drop_append, ofN_length, List.drop_eq_nil_of_le (by rw [ofN_length]; omega), Nat.sub_self]
    rfl
  rw [hd, List.take_append_of_le_length (by rw [ofN_length]; omega)]
  have h9 := ofN_split t (8 - r - t) l[a / 8]
  rw [show t + (8 - r - t) = 8 - r by omega] at h9
  rw [h9, List.take_append_of_le_length (by rw [ofN_length]; omega), List.take_of_length_le (by rw [ofN_length]; omega)]
theorem num_within (b r t : Nat) (ht : t ≤ 8 - r) : num (ofN t (b / 2 ^ (8 - r - t))) = b % 2 ^ (8 - r) / 2 ^ (8 - r - t) := by
  rw [num_ofN]
  have e : 2 ^ (8 - r) = 2 ^ (8 - r - t) * 2 ^ t := by rw [← Nat.pow_add]; congr 1; omega
  rw [e, Nat.mod_mul_right_div_self]

end Go.Proofs.YtflnpcgnenhogaaDoor.bit
namespace Go.Proofs.YtflnpcgnenhogaaDoor.bit
open Go.RowKit Go.Proofs.YtflnpcgnenhogaaDoor.own

theorem Tryd.infoByte : (Tryd.prog.info? 5).map (fun i => (i.zero, i.size, i.bytes)) = some (some (.int .u8 0), 1, 1) := by kernel_rfl
def nvs (l : List Nat) : List Value := l.map fun (c : Nat) => Value.int .u8 (c : Int)

/-- a writer, its bits; its block and its row bear the colour c -/
def WrC (x : Nat → Nat) (c : Nat) (w : World) (wb : Nat) (l : Bits) : Prop :=
  ∃ v, w.heap[wb]? = some (.cells #[v, .int .i64 (l.length : Int)] 80 (0, 0)) ∧ x wb = c ∧ w.ownsRow 0 5 1 v (packN l).length (nvs (packN l)) ∧
    (∀ g, v.ownBlock = some g → x g = c ∧ g ≠ wb) ∧ l.length ≤ 134217728

theorem WrC.frame {x x' : Nat → Nat} {C : Nat → Prop} {c : Nat} {w w' : World} {wb : Nat} {l : Bits} (h : WrC x c w wb l) (hf : Fr x x' C w w') (hC : ¬ C c) : WrC x' c w' wb l := by
  obtain ⟨v, h0, hx, ho, hg, hl⟩ := h
  have hlt := lt_of_block h0
  refine ⟨v, (hf.old wb hlt (by rw [hx]; exact hC)).trans h0, by rw [hf.col wb hlt]; exact hx, ⟨ho.1, ?_⟩, fun g e => ?_, hl⟩
  · rcases ho.2 with h2 | ⟨g, cap, cur, hv, hb, hcell, r⟩
    · exact .inl h2
    · have he : v.ownBlock = some g := by rw [hv]; rfl
      exact .inr ⟨g, cap, cur, hv, hb, (hf.old g (lt_of_block hcell) (by rw [(hg g he).1]; exact hC)).trans hcell, r⟩
  · have := ho.lt g e
    exact ⟨by rw [hf.col g this.2]; exact (hg g e).1, (hg g e).2⟩

theorem new_any (x : Nat → Nat) (c : Nat) (w : World) :
    Calls Tryd.prog 7 #[] w fun e w' => ∃ wb x', e = .returned (.pointer (some ⟨wb, 0, none⟩)) ∧ Fr x x' (fun e => e = c) w w' ∧ WrC x' c w' wb [] ∧ w.heap.size ≤ wb ∧ Below w.heap.size w w' := by
  go_enter Tryd.func7, Tryd.ntmps7
  go_wp2_with fail
  go_ret
  have hb : Below w.heap.size w (w.alloc (.cells #[.slice none 0 0, .int .i64 0] 80)) := (Below.refl _ _).alloc (Nat.le_refl _) _
  exact ⟨w.heap.size, paint x w.heap.size c, rfl, Fr.of_below hb rfl, ⟨_, heap_alloc_new w _, paint_new (Nat.le_refl _), by rw [packN_nil]; exact World.ownsRow_nil _ _ _ _, fun g hg => (by cases hg), Nat.zero_le _⟩, Nat.le_refl _, hb⟩

theorem len_any (x : Nat → Nat) (c : Nat) (w : World) (wb : Nat) (l : Bits) (h : WrC x c w wb l) :
    Calls Tryd.prog 19 #[.pointer (some ⟨wb, 0, none⟩)] w fun e w' => e = .returned (.int .i64 (l.length : Int)) ∧ w = w' := by
  obtain ⟨v, h0, -⟩ := h
  have hc : w.cell? ⟨wb, 1, none⟩ = some (.int .i64 (l.length : Int)) := by rw [cell_of_row w wb _ _ _ _ h0]; rfl
  clear h0
  go_enter Tryd.func19, Tryd.ntmps19
  go_wp2_with fail
  go_ret
  exact ⟨rfl, rfl⟩

theorem fits_any (v n : Nat) (w : World) :
    Calls Tryd.prog 84 #[.int .u64 (v : Int), .int .i64 (n : Int)] w fun e w' => e = .returned (.bool (decide (64 ≤ n ∨ v < 2 ^ n))) ∧ w = w' := by
  by_cases h : 64 ≤ n
  · have R : Hid (decide (64 ≤ n ∨ v < 2 ^ n) = true) := Lib.hid (decide_eq_true (.inl h))
    have h1 : (64 : Int) ≤ (n : Int) := by omega
    clear h
    go_enter Tryd.func84, Tryd.ntmps84
    go_wp2_with fail
    go_ret
    exact ⟨by rw [R.out]; rfl, rfl⟩
  · have R : Hid (((v : Int) / 2 ^ n == 0) = decide (64 ≤ n ∨ v < 2 ^ n)) := Lib.hid (by
      have e : ((v : Int) / 2 ^ n) = ((v / 2 ^ n : Nat) : Int) := by simp
      rw [e]
      by_cases hlt : v < 2 ^ n
      · rw [decide_eq_true (.inr hlt), Nat.div_eq_of_lt hlt]; rfl
      · have : 0 < v / 2 ^ n := Nat.div_pos (by omega) (Nat.pow_pos (by decide))
        rw [decide_eq_false (by omega)]
        exact beq_eq_false_iff_ne.2 (by omega))
    have h1 : (n : Int) < 64 := by omega
    have h2 : decide ((64 : Int) ≤ (n : Int)) = false := decide_eq_false (by omega)
    clear h
    go_enter Tryd.func84, Tryd.ntmps84
    go_wp2_with fail
    go_ret
    exact ⟨by rw [← R.out]; first | rfl | simp [h2], rfl⟩

/-- a writer on the way: its bytes ahead of more bits -/
def WrP (x : Nat → Nat) (c : Nat) (w : World) (wb : Nat) (l : Bits) (v : Value) : Prop :=
  w.heap[wb]? = some (.cells #[v, .int .i64 (l.length : Int)] 80 (0, 0)) ∧ x wb = c ∧ w.ownsRow 0 5 1 v (padded l).length (nvs (padded l)) ∧ (∀ g, v.ownBlock = some g → x g = c ∧ g ≠ wb)

theorem wraps_i64_63 (n : Int) (h₀ : 0 ≤ n) (h₁ : n < 2 ^ 63) : IntKind.i64.wrap n = n := IntWalk.i64_in _ (by omega)
theorem wraps_u64_64 (n : Int) (h₀ : 0 ≤ n) (h₁ : n < 2 ^ 64) : IntKind.u64.wrap n = n := by rw [IntKind.wrap_u64]; omega
theorem and7 (n : Nat) (h : n < 9223372036854775808) : bits .and .i64 (n : Int) 7 = ((n % 8 : Nat) : Int) := by
  have h1 := (bits_nat .i64 63 (by decide) wraps_i64_63 n 7 (by omega) (by decide)).1
  rw [show n &&& 7 = n % 8 from Nat.and_two_pow_sub_one_eq_mod n 3] at h1
  exact h1
theorem or8 (a b : Nat) (ha : a < 256) (hb : b < 256) : bits .or .u8 (a : Int) (b : Int) = ((a ||| b : Nat) : Int) := (bits_nat .u8 8 (by decide) wraps_u8 a b ha hb).2
theorem and64 (a t : Nat) (ha : a < 18446744073709551616) (ht : t ≤ 63) : bits .and .u64 (a : Int) (2 ^ t - 1) = ((a % 2 ^ t : Nat) : Int) := by
  have h1 := bits_mask .u64 64 (by decide) wraps_u64_64 t (by omega) (a : Int) (by omega) (by omega)
  rw [h1]
  simp

/-- the row of a writer is longer by one: a new world in which the writer is told so -/
theorem row_append {x : Nat → Nat} {c : Nat} {w w2 : World} {wb n : Nat} {vw v2 u : Value} {o : Obj} {ys : List Value} (g0 : w.heap[wb]? = some (.cells #[vw, u] 80 (0, 0))) (gx : x wb = c)
    (gg : ∀ g, vw.ownBlock = some g → x g = c ∧ g ≠ wb) (hown : w2.ownsRow 0 5 1 v2 n ys) (hg : (w.alloc o).grownBy w2 vw.ownBlock) (hw : v2.ownBlock = vw.ownBlock ∨ v2.ownBlock = some (w.heap.size + 1)) :
    ∃ x2, Fr x x2 (fun e => e = c) w (w2.setCell ⟨wb, 0, none⟩ v2) ∧ (w2.setCell ⟨wb, 0, none⟩ v2).heap[wb]? = some (.cells #[v2, u] 80 (0, 0)) ∧ x2 wb = c ∧ (w2.setCell ⟨wb, 0, none⟩ v2).ownsRow 0 5 1 v2 n ys ∧ ∀ g, v2.ownBlock = some g → x2 g = c ∧ g ≠ wb := by
  have hlt := lt_of_block g0
  have kp : Keeps w w2 (fun b => vw.ownBlock = some b) := ((Keeps.refl w _).alloc o).grown hg (fun k hk => .inl hk)
  have kq : Keeps w (w2.setCell ⟨wb, 0, none⟩ v2) (fun b => vw.ownBlock = some b ∨ b = wb) :=
    Keeps.setCell (S := fun b => vw.ownBlock = some b ∨ b = wb) ⟨kp.os, kp.tape, kp.output, kp.size, fun b hb hS => kp.block b hb (fun h => hS (.inl h))⟩ (.inl (.inr rfl)) v2
  have hwb : w2.heap[wb]? = some (.cells #[vw, u] 80 (0, 0)) := (kp.block wb hlt (fun h => (gg wb h).2 rfl)).trans g0
  have hne : ∀ g, v2.ownBlock = some g → g ≠ wb := fun g hg2 => by
    rcases hw with e | e
    · exact (gg g (e ▸ hg2)).2
    · rw [e] at hg2; injection hg2 with hg2; omega
  refine ⟨paint x w.heap.size c, kq.fr rfl (fun b _ hS => ?_), ?_, by rw [paint_old hlt]; exact gx, ⟨hown.1, ?_⟩, fun g hg2 => ⟨?_, hne g hg2⟩⟩
  · rcases hS with h | h
    · exact (gg b h).1
    · rw [h]; exact gx
  · rw [heap_setCell_same w2 wb 0 _ _ _ hwb]
    rfl
  · rcases hown.2 with h2 | ⟨g, cap, cur, hv, hb, hcell, r⟩
    · exact .inl h2
    · exact .inr ⟨g, cap, cur, hv, hb, (Below.heap_setCell w2 _ _ g (hne g (by rw [hv]; rfl))).trans hcell, r⟩
  · rcases hw with e | e
    · have h2 := e ▸ hg2
      have h3 := gg g h2
      by_cases hgl : g < w.heap.size
      · rw [paint_old hgl]; exact h3.1
      · rw [paint_new (by omega)]
    · rw [e] at hg2; injection hg2 with hg2
      rw [paint_new (by omega)]

theorem padded_pos (l : Bits) : 0 < (padded l).length := by
  unfold padded
  split
  · simp
  · rename_i h
    rw [packN_length]
    omega
theorem WrP.shape {x : Nat → Nat} {c : Nat} {w : World} {wb : Nat} {l : Bits} {v : Value} (h : WrP x c w wb l v) : ∃ g n cap, v = .slice (some ⟨g, 0, none⟩) n cap := by
  obtain ⟨_, _, ho, _⟩ := h
  rcases ho.2 with ⟨_, h0⟩ | ⟨g, cap, cur, hv, _⟩
  · have := padded_pos l; omega
  · exact ⟨g, _, cap, hv⟩
/-- the last byte is written anew, and the bits are counted -/
theorem WrP.last {x : Nat → Nat} {c : Nat} {w : World} {wb : Nat} {l y : Bits} {g n cap : Nat} (h : WrP x c w wb l (.slice (some ⟨g, 0, none⟩) n cap)) (hy : 0 < y.length) (h8 : y.length ≤ 8 - l.length % 8) (hmax : (l ++ y).length ≤ 134217728) :
    ∃ b, b < 256 ∧ n = l.length / 8 + 1 ∧ w.cell? ⟨g, l.length / 8, none⟩ = some (.int .u8 (b : Nat)) ∧ (∀ j, w.frozen? ⟨g, j, none⟩ = false) ∧ x g = c ∧ g ≠ wb ∧
      ∀ k : Int, k = (((l ++ y).length : Nat) : Int) → Fr x x (fun e => e = c) w ((w.setCell ⟨g, l.length / 8, none⟩ (.int .u8 ((b ||| num y <<< (8 - l.length % 8 - y.length) : Nat) : Int))).setCell ⟨wb, 1, none⟩ (.int .i64 k)) ∧
        WrC x c ((w.setCell ⟨g, l.length / 8, none⟩ (.int .u8 ((b ||| num y <<< (8 - l.length % 8 - y.length) : Nat) : Int))).setCell ⟨wb, 1, none⟩ (.int .i64 k)) wb (l ++ y) := by
  obtain ⟨h0, hx, ho, hg⟩ := h
  obtain ⟨H, b, e1, hb, e2, e3⟩ := padded_step l y hy h8
  obtain ⟨hgc, hgw⟩ := hg g rfl
  have hn : n = (padded l).length := by
    rcases ho.2 with ⟨hv, _⟩ | ⟨_, _, _, hv, _⟩
    · cases hv
    · exact (Value.slice.inj hv).2.1
  have hn2 : n = l.length / 8 + 1 := by rw [hn, e1, List.length_append, e3]; rfl
  rw [hn] at ho
  have hc := ho.cellAt (l.length / 8) (by rw [← hn]; omega)
  rw [hn] at h0
  refine ⟨b, hb, hn2, ?_, ho.frozenAt, hgc, hgw, fun k hk => ⟨Fr.same rfl rfl rfl (by simp) (fun d _ hd => ?_), ?_⟩⟩
  · rw [hc, e1, ← e3]
    simp [nvs]
  · rw [Below.heap_setCell _ _ _ _ (show d ≠ wb from fun e => hd (by rw [e]; exact hx)), Below.heap_setCell _ _ _ _ (show d ≠ g from fun e => hd (by rw [e]; exact hgc))]
  · obtain ⟨ho2, _⟩ := ho.stored (l.length / 8) (.int .u8 ((b ||| num y <<< (8 - l.length % 8 - y.length) : Nat) : Int))
    refine ⟨.slice (some ⟨g, 0, none⟩) n cap, ?_, hx, ?_, fun d hd => ?_, hmax⟩
    · rw [heap_setCell_same _ wb 1 _ _ _ ((Below.heap_setCell _ _ _ _ (Ne.symm hgw)).trans h0), hk, hn]
      rfl
    · have hll : (packN (l ++ y)).length = (padded l).length := by rw [e2, e1]; simp
      rw [hll, e2, ← hn]
      rw [← hn] at ho2
      have hset : (nvs (padded l)).set (l.length / 8) (.int .u8 ((b ||| num y <<< (8 - l.length % 8 - y.length) : Nat) : Int)) = nvs (H ++ [b ||| num y <<< (8 - l.length % 8 - y.length)]) := by
        rw [e1, ← e3]
        simp [nvs]
      rw [hset] at ho2
      refine ⟨ho2.1, ?_⟩
      rcases ho2.2 with h2 | ⟨g', cap', cur, hv, hb', hcell, r⟩
      · exact .inl h2
      · have : g' = g := by
          have := (Value.slice.inj hv).1
          injection this with this
          exact (congrArg Addr.block this).symm
        subst this
        exact .inr ⟨g', cap', cur, hv, hb', (Below.heap_setCell _ _ _ _ hgw).trans hcell, r⟩
    · injection hd with hd
      subst hd
      exact ⟨hgc, hgw⟩

set_option maxRecDepth 100000 in
set_option maxHeartbeats 6400000 in
theorem put_any (x : Nat → Nat) (c : Nat) (w : World) (wb : Nat) (l : Bits) (v n : Nat) (hv : v < 2 ^ n) (hn : n ≤ 64) (hl : l.length + n ≤ 134217728) (h : WrC x c w wb l) :
    Calls Tryd.prog 85 #[.pointer (some ⟨wb, 0, none⟩), .int .u64 (v : Int), .int .i64 (n : Int)] w fun e w' => e = .returned (.tuple #[]) ∧ ∃ x', Fr x x' (fun e => e = c) w w' ∧ WrC x' c w' wb (l ++ ofN n v) := by
  obtain ⟨i0, hi, hz0, hz1, hz2⟩ := info_parts Tryd.infoByte
  have H := Lib.hid h
  have HV := Lib.hid hv
  clear h hv
  go_enter Tryd.func85, Tryd.ntmps85
  go_wp2_with fail
  go_loopw [2] (fun i wr => ∃ m : Nat, i = .int .i64 m ∧ m ≤ n ∧ ∃ x', Fr x x' (fun e => e = c) w wr ∧ WrC x' c wr wb (l ++ ofN (n - m) (v / 2 ^ m))) (fun i _ => (intOf i).toNat)
  case atStart => exact ⟨n, rfl, Nat.le_refl _, x, Fr.refl _ _ _, by rw [Nat.sub_self]; show WrC x c w wb (l ++ []); rw [List.append_nil]; exact H.out⟩
  case round =>
    obtain ⟨m, rfl, hm, xr, hf, hW⟩ := hrel
    have HF := Lib.hid hf
    clear hf
    by_cases h0 : 0 < m
    · obtain ⟨L, hL⟩ : ∃ L, l ++ ofN (n - m) (v / 2 ^ m) = L := ⟨_, rfl⟩
      have HL := Lib.hid hL
      have hlen : L.length = l.length + (n - m) := by rw [← hL, List.length_append, ofN_length]
      rw [hL] at hW
      clear hL
      obtain ⟨vw, g0, gx, go, gg, gl⟩ := hW
      have c0 : wr.cell? ⟨wb, 0, none⟩ = some vw := by rw [cell_of_row wr wb _ _ _ _ g0]; rfl
      have c1 : wr.cell? ⟨wb, 1, none⟩ = some (.int .i64 (L.length : Int)) := by rw [cell_of_row wr wb _ _ _ _ g0]; rfl
      have cf : ∀ j, wr.frozen? ⟨wb, j, none⟩ = false := fun j => frozen_of_row wr wb j _ _ g0
      have G0 := Lib.hid g0
      have GO := Lib.hid go
      have GG := Lib.hid gg
      obtain ⟨ll, hll⟩ : ∃ k, L.length = k := ⟨_, rfl⟩
      rw [hll] at c1 hlen
      have hlb : ll + m ≤ 134217728 := by omega
      have HLEN := Lib.hid hlen
      have HLL := Lib.hid hll
      obtain ⟨r, hr⟩ : ∃ r, ll % 8 = r := ⟨_, rfl⟩
      have ha7 := and7 ll (by omega)
      rw [hr] at ha7
      have hr8 : r < 8 := by omega
      have HR := Lib.hid hr
      clear g0 go gg hlen hr gl
      go_upto_if 16 with fail
      go_cut [] from 17 to 25 (fun wc => ∃ x2 v2, Fr xr x2 (fun e => e = c) wr wc ∧ WrP x2 c wc wb L v2)
      case first => as_aux_lemma =>
        by_cases hz : r = 0
        · subst hz
          have hpl : (packN L).length ≤ 134217728 := by rw [packN_length, HLL.out]; omega
          have PD : Hid (padded L = packN L ++ [0]) := Lib.hid (by unfold padded; rw [if_pos (by rw [HLL.out]; exact HR.out)])
          have GA := Lib.hid (GO.out.alloc (.cells #[.int .u8 0] 5))
          have hc3 : (packN L).length + 1 ≤ maxLen := by simp only [maxLen]; omega
          have hc4 : ((packN L).length + 1) * 1 ≤ 140737488355328 := by omega
          have hc2 : ∀ u ∈ [Value.int .u8 0], u.oneCell' = true := by intro u hu; simp at hu; subst hu; rfl
          go_wp2_with (at_builtin; refine wpList_append_at _ rfl _ _ 78 rfl 0 5 i0 _ 1 1 Tryd.underlying78 hi hz0 hz1 hz2 rfl (by decide) vw (packN L).length _ rfl GA.out ⟨wr.heap.size, 0, none⟩ 1 1 [.int .u8 0] rfl rfl ?c1 ?c2 ?c3 ?c4 ?c5 ?c6 ?_)
          try case c1 => exact cell_one_new _ _ _
          try case c2 => exact hc2
          try case c3 => exact hc3
          try case c4 => exact hc4
          try case c5 => exact Nat.zero_le _
          try case c6 => omega
          intro v2 w2 hown hg hw
          obtain ⟨a2, k2, rfl⟩ := own_shape hown
          obtain ⟨x2, r1, r2, r3, r4, r5⟩ := row_append G0.out gx GG.out hown hg hw
          have hb2 : w2.heap[wb]? = wr.heap[wb]? := by
            rw [hg.block wb (by have := lt_of_block G0.out; simp; omega) (fun e => (GG.out wb e.symm).2 rfl), Below.heap_alloc _ _ _ (lt_of_block G0.out)]
          have c0' : w2.cell? ⟨wb, 0, none⟩ = some vw := by rw [cell_of_row w2 wb _ _ _ _ (hb2.trans G0.out)]; rfl
          have cf' : ∀ j, w2.frozen? ⟨wb, j, none⟩ = false := fun j => frozen_of_row w2 wb j _ _ (hb2.trans G0.out)
          have RR : Hid (Fr xr x2 (fun e => e = c) wr (w2.setCell ⟨wb, 0, none⟩ (.slice a2 ((packN L).length + 1) k2)) ∧ WrP x2 c (w2.setCell ⟨wb, 0, none⟩ (.slice a2 ((packN L).length + 1) k2)) wb L (.slice a2 ((packN L).length + 1) k2)) := Lib.hid ⟨r1, r2, r3, by rw [PD.out]; simpa [nvs] using r4, r5⟩
          clear r1 r2 r3 r4 r5 hown hg hw hb2
          go_wp2_with fail
          go_meet
          case rel => exact ⟨x2, _, RR.out.1, RR.out.2⟩
        · have hzb : ((r : Int) == 0) = false := beq_eq_false_iff_ne.2 (by omega)
          have RR : Hid (WrP xr c wr wb L vw) := Lib.hid ⟨G0.out, gx, by unfold padded; rw [if_neg (by rw [HLL.out, HR.out]; exact hz)]; exact GO.out, GG.out⟩
          clear hz
          go_wp2_with fail
          go_meet
          case rel => exact ⟨xr, vw, Fr.refl _ _ _, RR.out⟩
      case rest => as_aux_lemma =>
        obtain ⟨x2, v2, f2, hP⟩ := hcut
        have F2 := Lib.hid (HF.out.trans f2)
        clear f2 c0 c1 cf G0 GO GG HF
        generalize wc = W2 at hP F2 ⊢
        obtain ⟨g, n2, cap, rfl⟩ := hP.shape
        obtain ⟨t, ht⟩ : ∃ t : Nat, t = min m (8 - r) := ⟨_, rfl⟩
        have ht0 : 0 < t := by omega
        have htm : t ≤ m := by omega
        have htr : t ≤ 8 - r := by omega
        have hmin : (if 8 - (r : Int) < (m : Int) then 8 - (r : Int) else (m : Int)) = (t : Int) := by split <;> omega
        have hyl : (ofN t (v / 2 ^ (m - t))).length = t := ofN_length _ _
        have hrL : L.length % 8 = r := by rw [HLL.out]; exact HR.out
        obtain ⟨b, hb, hn2, hcb, hfb, hgc, hgw, hK⟩ := hP.last (y := ofN t (v / 2 ^ (m - t))) (by rw [hyl]; exact ht0) (by rw [hyl, hrL]; exact htr) (by rw [List.length_append, hyl, HLL.out]; omega)
        rw [hyl, hrL, num_ofN, HLL.out] at hK
        rw [HLL.out] at hn2 hcb
        obtain ⟨q, hq⟩ : ∃ q, ll / 8 = q := ⟨_, rfl⟩
        rw [hq] at hn2 hcb hK
        have hqb : q ≤ 16777216 := by omega
        have c1 : W2.cell? ⟨wb, 1, none⟩ = some (.int .i64 (ll : Int)) := by rw [cell_of_row W2 wb _ _ _ _ hP.1, HLL.out]; rfl
        have c0 : W2.cell? ⟨wb, 0, none⟩ = some (.slice (some ⟨g, 0, none⟩) n2 cap) := by rw [cell_of_row W2 wb _ _ _ _ hP.1]; rfl
        have cf : ∀ j, W2.frozen? ⟨wb, j, none⟩ = false := fun j => frozen_of_row W2 wb j _ _ hP.1
        have HK := Lib.hid hK
        have HT := Lib.hid ht
        have HP := Lib.hid hP
        clear hK hP ht hyl hrL
        go_upto_region 5 with fail
        have hw1 : IntKind.i64.wrap ((m : Int) - (t : Int)) = ((m - t : Nat) : Int) := by rw [IntWalk.i64_in _ (by omega)]; omega
        obtain ⟨u, hu⟩ : ∃ u : Nat, u = v / 2 ^ (m - t) := ⟨_, rfl⟩
        obtain ⟨pc, hpc⟩ : ∃ pc : Nat, pc = u % 2 ^ t := ⟨_, rfl⟩
        have hp2 : (2 : Nat) ^ t ≤ 2 ^ 8 := Nat.pow_le_pow_right (by decide) (by omega)
        have hpos : 0 < (2 : Nat) ^ t := Nat.pow_pos (by decide)
        have hpl : pc < 2 ^ t := by rw [hpc]; exact Nat.mod_lt _ hpos
        have hpt : ((2 : Int) ^ t) = ((2 ^ t : Nat) : Int) := by simp
        have hv64 : v < 18446744073709551616 := Nat.lt_of_lt_of_le HV.out (by
          calc (2 : Nat) ^ n ≤ 2 ^ 64 := Nat.pow_le_pow_right (by decide) hn
            _ = 18446744073709551616 := by decide)
        have hul : u < 18446744073709551616 := by rw [hu]; exact Nat.lt_of_le_of_lt (Nat.div_le_self _ _) hv64
        have hbits : bits BinOp.and IntKind.u64 ((v : Int) / 2 ^ (m - t)) (IntKind.u64.wrap (IntKind.u64.wrap (2 ^ t) - 1)) = (pc : Int) := by
          rw [show ((v : Int) / 2 ^ (m - t)) = (u : Int) by rw [hu]; simp, IntKind.wrap_u64, IntKind.wrap_u64]
          rw [show ((2 : Int) ^ t % 18446744073709551616 - 1) % 18446744073709551616 = 2 ^ t - 1 by rw [hpt]; omega, and64 u t hul (by omega), hpc]
        have hmod : (pc : Int) % 256 = (pc : Int) := by omega
        rw [← hu, ← hpc] at HK
        have HU := Lib.hid hu
        have HPC := Lib.hid hpl
        have HP2 := Lib.hid hp2
        clear hu hpc hp2 hpos hpl hpt hv64 hul
        go_quiet (fail)
        clear hbits hmod hw1
        go_upto_region 6 with fail
        have hsh : pc * 2 ^ (8 - r - t) < 256 := by
          calc pc * 2 ^ (8 - r - t) < 2 ^ t * 2 ^ (8 - r - t) := Nat.mul_lt_mul_of_pos_right HPC.out (Nat.pow_pos (by decide))
            _ = 2 ^ (8 - r) := by rw [← Nat.pow_add]; congr 1; omega
            _ ≤ 2 ^ 8 := Nat.pow_le_pow_right (by decide) (by omega)
        obtain ⟨z, hz⟩ : ∃ z, z = pc * 2 ^ (8 - r - t) := ⟨_, rfl⟩
        rw [← hz] at hsh
        have hor := or8 b z hb hsh
        have hi0 : (0 : Int) ≤ (q : Int) := by omega
        have hi1 : (q : Int) < (n2 : Int) := by omega
        have hw2 : IntKind.i64.wrap ((n2 : Int) - 1) = (q : Int) := by rw [IntWalk.i64_in _ (by omega)]; omega
        have HN2 := Lib.hid hn2
        have HQ := Lib.hid hq
        have hw3 : IntKind.i64.wrap (8 - (r : Int) - (t : Int)) = ((8 - r - t : Nat) : Int) := by rw [IntWalk.i64_in _ (by omega)]; omega
        have HZ := Lib.hid hz
        generalize hW4 : ({ W2.drewN nq with drawn := (W2.drewN nq).drawn + 1 } : World) = W4
        have d0 : W4.cell? ⟨wb, 0, none⟩ = some (.slice (some ⟨g, 0, none⟩) n2 cap) := by rw [← hW4]; exact c0
        have d1 : W4.cell? ⟨wb, 1, none⟩ = some (.int .i64 (ll : Int)) := by rw [← hW4]; exact c1
        have d2 : W4.cell? ⟨g, q, none⟩ = some (.int .u8 (b : Int)) := by rw [← hW4]; exact hcb
        have d3 : ∀ j, W4.frozen? ⟨g, j, none⟩ = false := by rw [← hW4]; exact hfb
        have d4 : ∀ j, W4.frozen? ⟨wb, j, none⟩ = false := by rw [← hW4]; exact cf
        refine wp_region_still_tail 19 (by kernel_rfl) (by kernel_rfl) ?_
        simp only [List.take_succ_cons, List.take_zero, List.drop_succ_cons, List.drop_zero]
        have hsl : IntKind.u8.wrap ((pc : Int) * 2 ^ (8 - r - t)) = (z : Int) := by
          rw [IntKind.wrap_u8, show ((pc : Int) * 2 ^ (8 - r - t)) = (z : Int) by rw [hz]; simp]
          omega
        have HW4 := Lib.hid hW4
        rw [hW4]
        clear hn2 hq hW4 hz
        repeat still_step
        refine wpStill_nil ?_
        have hgw2 : wb ≠ g := Ne.symm hgw
        have hsum : IntKind.i64.wrap ((ll : Int) + (t : Int)) = (ll : Int) + (t : Int) := IntWalk.i64_in _ (by omega)
        have DONE : Hid (Fr x x2 (fun e => e = c) w ((W4.setCell ⟨g, q, none⟩ (.int .u8 ((b ||| z : Nat) : Int))).setCell ⟨wb, 1, none⟩ (.int .i64 ((ll : Int) + (t : Int)))) ∧
            WrC x2 c ((W4.setCell ⟨g, q, none⟩ (.int .u8 ((b ||| z : Nat) : Int))).setCell ⟨wb, 1, none⟩ (.int .i64 ((ll : Int) + (t : Int)))) wb (l ++ ofN (n - (m - t)) (v / 2 ^ (m - t)))) := Lib.hid (by
          have hk := HK.out ((ll : Int) + (t : Int)) (by rw [List.length_append, ofN_length, HLL.out]; omega)
          rw [Nat.shiftLeft_eq, ← HZ.out] at hk
          rw [← HW4.out]
          have e : l ++ ofN (n - (m - t)) (v / 2 ^ (m - t)) = L ++ ofN t u := by
            rw [← HL.out, List.append_assoc, HU.out, ofN_more _ _ _ _ htm]
            congr 2
            omega
          rw [e]
          exact ⟨F2.out.trans ⟨hk.1.os, hk.1.tape, hk.1.output, hk.1.size, hk.1.col, hk.1.new, hk.1.old⟩, hk.2⟩)
        clear hw2 hw3 hsl hor hfb hcb c0 c1 cf
        go_wp2_with fail
        go_roundw
        case rel => exact ⟨m - t, by go_num, by omega, x2, DONE.out.1, DONE.out.2⟩
        case measure => simp [intOf]; omega
    · have hm0 : m = 0 := by omega
      subst hm0
      rw [Nat.sub_zero, Nat.pow_zero, Nat.div_one] at hW
      have HW := Lib.hid hW
      clear hW
      go_wp2_with fail
      go_end0
      exact ⟨rfl, xr, HF.out, HW.out⟩
end Go.Proofs.YtflnpcgnenhogaaDoor.bit
namespace Go.Proofs.YtflnpcgnenhogaaDoor.bit
open Go.RowKit Go.Proofs.YtflnpcgnenhogaaDoor.own

/-- bytes as a text -/
def txt (l : List Nat) : ByteArray := ⟨(l.map UInt8.ofNat).toArray⟩
theorem Put_ok (x : Nat → Nat) (c : Nat) (w : World) (wb : Nat) (l : Bits) (v n : Nat) (hv : v < 2 ^ n) (hn : n ≤ 64) (hl : l.length + n ≤ 134217728) (h : WrC x c w wb l) :
    Calls Tryd.prog 61 #[.pointer (some ⟨wb, 0, none⟩), .int .u64 (v : Int), .int .i64 (n : Int)] w fun e w' => e = .returned (.int .i64 0) ∧ ∃ x', Fr x x' (fun e => e = c) w w' ∧ WrC x' c w' wb (l ++ ofN n v) := by
  have H := Lib.hid h
  have FI := Lib.hid (fits_any v n w)
  have D : Hid (decide (64 ≤ n ∨ v < 2 ^ n) = true) := Lib.hid (decide_eq_true (.inr hv))
  have PU := Lib.hid (put_any x c w wb l v n hv hn hl h)
  have c1 : w.cell? ⟨wb, 1, none⟩ = some (.int .i64 (l.length : Int)) := by obtain ⟨_, h0, _⟩ := h; rw [cell_of_row w wb _ _ _ _ h0]; rfl
  obtain ⟨ll, hll⟩ : ∃ k, l.length = k := ⟨_, rfl⟩
  rw [hll] at c1 hl
  have i1 : ¬ (n : Int) < 0 := by omega
  have i2 : ¬ (64 : Int) < (n : Int) := by omega
  have i3 : ¬ (134217728 : Int) - (ll : Int) < (n : Int) := by omega
  have hw : IntKind.i64.wrap ((134217728 : Int) - (ll : Int)) = 134217728 - (ll : Int) := IntWalk.i64_in _ (by omega)
  clear h hv hn hl
  go_enter Tryd.func61, Tryd.ntmps61
  go_wp2_with fail
  refine FI.out.mono ?_
  rintro e w1 ⟨rfl, rfl⟩
  rw [D.out]
  go_wp2_with fail
  refine PU.out.mono ?_
  rintro e w1 ⟨rfl, x', hf, hW⟩
  have HF := Lib.hid hf
  have HW := Lib.hid hW
  clear hf hW
  go_wp2_with fail
  go_ret
  exact ⟨rfl, x', HF.out, HW.out⟩

theorem text_any (x : Nat → Nat) (c : Nat) (w : World) (wb : Nat) (l : Bits) (h : WrC x c w wb l) :
    Calls Tryd.prog 13 #[.pointer (some ⟨wb, 0, none⟩)] w fun e w' => e = .returned (.tuple #[.string (txt (packN l)), .int .i64 0]) ∧ w = w' := by
  obtain ⟨v, h0, _, ho, _⟩ := h
  have c0 : w.cell? ⟨wb, 0, none⟩ = some v := by rw [cell_of_row w wb _ _ _ _ h0]; rfl
  obtain ⟨a, cap, hv⟩ := own_shape ho
  have hconv : (convert 78 9 v).run Tryd.prog w = .ok (.string (txt (packN l))) w := by
    rcases ho.2 with ⟨hv, hz⟩ | ⟨g, cap, cur, hv, _⟩
    · have hp : packN l = [] := List.eq_nil_of_length_eq_zero hz
      rw [hv, hp]
      exact run_convert_bytes_nil (P := Tryd.prog) w 78 5 (by kernel_rfl) (by kernel_rfl) 0 0 9 (by kernel_rfl)
    · have hc := run_convert_bytes_back (P := Tryd.prog) w 78 9 5 ⟨g, 0, none⟩ cap ((packN l).map UInt8.ofNat) (by kernel_rfl) (by kernel_rfl) (by kernel_rfl) (fun j hj => by
        have hj' : j < (packN l).length := by simpa using hj
        rw [hv] at ho
        rw [Addr.add_lit, Nat.zero_add, ho.cellAt j (by omega)]
        have hlt := packN_lt l _ (List.getElem_mem hj')
        simp [nvs, hj']
        omega)
      rw [List.length_map] at hc
      rw [hv]
      exact hc
  subst hv
  clear h0 ho
  go_enter Tryd.func13, Tryd.ntmps13
  go_wp2_with fail
  go_ret2
  exact ⟨rfl, rfl⟩
end Go.Proofs.YtflnpcgnenhogaaDoor.bit
namespace Go.Proofs.YtflnpcgnenhogaaDoor.bit
open Go.RowKit Go.Proofs.YtflnpcgnenhogaaDoor.own

/-- a reader of a text, at a place -/
def RdC (x : Nat → Nat) (c : Nat) (w : World) (rb : Nat) (s : ByteArray) (a : Nat) : Prop :=
  w.heap[rb]? = some (.cells #[.string s, .int .i64 (a : Int)] 93 (0, 0)) ∧ x rb = c ∧ a ≤ 8 * s.size ∧ s.size ≤ 1152921504606846975

def nats (s : ByteArray) : List Nat := s.data.toList.map UInt8.toNat
theorem nats_length (s : ByteArray) : (nats s).length = s.size := by simp [nats]

theorem nats_at (s : ByteArray) (q : Nat) (h : q < s.size) (h' : q < (nats s).length) : (nats s)[q] = s[q].toNat := by
  apply Option.some.inj
  rw [← List.getElem?_eq_getElem h']
  show (s.data.toList.map UInt8.toNat)[q]? = _
  rw [List.getElem?_map, List.getElem?_eq_getElem (by simpa using h)]
  rfl

theorem left_any (x : Nat → Nat) (c : Nat) (w : World) (rb : Nat) (s : ByteArray) (a : Nat) (h : RdC x c w rb s a) :
    Calls Tryd.prog 99 #[.pointer (some ⟨rb, 0, none⟩)] w fun e w' => e = .returned (.int .i64 ((8 * s.size - a : Nat) : Int)) ∧ ∃ m, w.drewN m = w' := by
  obtain ⟨h0, -, hb, hs⟩ := h
  have c0 : w.cell? ⟨rb, 0, none⟩ = some (.string s) := by rw [cell_of_row w rb _ _ _ _ h0]; rfl
  have c1 : w.cell? ⟨rb, 1, none⟩ = some (.int .i64 (a : Int)) := by rw [cell_of_row w rb _ _ _ _ h0]; rfl
  have hw1 : IntKind.i64.wrap (8 * (s.size : Int)) = 8 * (s.size : Int) := IntWalk.i64_in _ (by omega)
  have hw2 : IntKind.i64.wrap (8 * (s.size : Int) - (a : Int)) = ((8 * s.size - a : Nat) : Int) := by rw [IntWalk.i64_in _ (by omega)]; omega
  clear h0
  go_enter Tryd.func99, Tryd.ntmps99
  go_wp2_with fail
  go_quiet (fail)
  go_wp2_with fail
  go_ret
  exact ⟨rfl, _, rfl⟩

set_option maxRecDepth 100000 in
theorem shift_any (s : ByteArray) (a v t rb pb vb : Nat) (w : World) (ht : t ≤ 8 - a % 8) (hat : a / 8 < s.size) (hs : s.size ≤ 1152921504606846975)
    (hpb : w.cell? ⟨pb, 0, none⟩ = some (.pointer (some ⟨rb, 0, none⟩))) (hrb : w.heap[rb]? = some (.cells #[.string s, .int .i64 (a : Int)] 93 (0, 0))) (hvb : w.heap[vb]? = some (.cells #[.int .u64 (v : Int)] 76 (0, 0)))
    (hpv : pb ≠ vb) (hrv : rb ≠ vb) (hv : v * 2 ^ t + num (((unpack (nats s)).drop a).take t) < 18446744073709551616) :
    Calls Tryd.prog 100 #[.int .i64 (t : Int), .pointer (some ⟨pb, 0, none⟩), .pointer (some ⟨vb, 0, none⟩)] w fun e w' => e = .returned (.tuple #[]) ∧
      ∃ q, w' = ((w.drewN q).setCell ⟨vb, 0, none⟩ (.int .u64 ((v * 2 ^ t + num (((unpack (nats s)).drop a).take t) : Nat) : Int))).setCell ⟨rb, 1, none⟩ (.int .i64 ((a + t : Nat) : Int)) := by
  have c0 : w.cell? ⟨rb, 0, none⟩ = some (.string s) := by rw [cell_of_row w rb _ _ _ _ hrb]; rfl
  have c1 : w.cell? ⟨rb, 1, none⟩ = some (.int .i64 (a : Int)) := by rw [cell_of_row w rb _ _ _ _ hrb]; rfl
  have cf : ∀ j, w.frozen? ⟨rb, j, none⟩ = false := fun j => frozen_of_row w rb j _ _ hrb
  have d0 : w.cell? ⟨vb, 0, none⟩ = some (.int .u64 (v : Int)) := by rw [cell_of_row w vb _ _ _ _ hvb]; rfl
  have df : ∀ j, w.frozen? ⟨vb, j, none⟩ = false := fun j => frozen_of_row w vb j _ _ hvb
  obtain ⟨r, hr⟩ : ∃ r, a % 8 = r := ⟨_, rfl⟩
  have ha7 := and7 a (by omega)
  rw [hr] at ha7 ht
  obtain ⟨q, hq⟩ : ∃ q, a / 8 = q := ⟨_, rfl⟩
  rw [hq] at hat
  obtain ⟨k, hk⟩ : ∃ k, 8 - r = k := ⟨_, rfl⟩
  have hr8 : (8 : Int) - (r : Int) = (k : Int) := by omega
  have hq8 : (a : Int) / 8 = (q : Int) := by omega
  have hi0 : (0 : Int) ≤ (q : Int) := by omega
  have hi1 : (q : Int) < (s.size : Int) := by omega
  have hw1 : IntKind.i64.wrap ((k : Int) - (t : Int)) = ((k - t : Nat) : Int) := by rw [IntWalk.i64_in _ (by omega)]; omega
  have hqn : q < (nats s).length := by rw [nats_length]; exact hat
  have hby : (nats s)[q] = s[q].toNat := nats_at s q hat hqn
  have hb256 : s[q].toNat < 256 := s[q].toNat_lt
  obtain ⟨pc, hpc⟩ : ∃ pc, num (((unpack (nats s)).drop a).take t) = pc := ⟨_, rfl⟩
  have hpcv : pc = s[q].toNat % 2 ^ k / 2 ^ (k - t) := by
    have h1 := unpack_within (nats s) a t (by rw [hq]; exact hqn) (by rw [hr]; exact ht)
    rw [← hpc, h1, hr, num_within _ r t ht, hk]
    congr 2
    rw [← hby]
    congr 1
  rw [hpc] at hv ⊢
  have hk8 : k ≤ 8 := by omega
  have hp2 : (2 : Nat) ^ k ≤ 2 ^ 8 := Nat.pow_le_pow_right (by decide) hk8
  have hp1 : 0 < (2 : Nat) ^ k := Nat.pow_pos (by decide)
  have hpt : ((2 : Int) ^ k) = ((2 ^ k : Nat) : Int) := by simp
  have hand : bits BinOp.and IntKind.i64 (s[q].toNat : Int) (wrap64 (wrap64 (2 ^ k) - 1)) / 2 ^ (k - t) = (pc : Int) := by
    rw [IntWalk.wrap64_in (2 ^ k) (by rw [hpt]; omega), IntWalk.wrap64_in _ (by rw [hpt]; omega)]
    have h1 := bits_mask .i64 63 (by decide) wraps_i64_63 k (by omega) (s[q].toNat : Int) (by omega) (by omega)
    rw [h1, hpcv]
    simp
  have hpt2 : pc < 2 ^ t := by rw [← hpc]; exact Nat.lt_of_lt_of_le (num_lt _) (Nat.pow_le_pow_right (by decide) (by rw [List.length_take]; omega))
  have hor2 : bits BinOp.or IntKind.u64 (IntKind.u64.wrap ((v : Int) * 2 ^ t)) (IntKind.u64.wrap (pc : Int)) = ((v * 2 ^ t + pc : Nat) : Int) := by
    have e1 : ((v : Int) * 2 ^ t) = ((v * 2 ^ t : Nat) : Int) := by simp
    rw [e1, wraps_u64_64 _ (by omega) (by omega), wraps_u64_64 _ (by omega) (by omega)]
    have h1 := (bits_nat .u64 64 (by decide) wraps_u64_64 (v * 2 ^ t) pc (by omega) (by omega)).2
    rw [h1, Nat.mul_comm v, ← Nat.two_pow_add_eq_or_of_lt hpt2]
  have hsum : IntKind.i64.wrap ((a : Int) + (t : Int)) = (a : Int) + (t : Int) := IntWalk.i64_in _ (by omega)
  have hvp : vb ≠ pb := Ne.symm hpv
  have hvr : vb ≠ rb := Ne.symm hrv
  clear hrb hvb hpc hpcv hp1 hp2 hpt hpt2 hby hqn hk8 hv
  go_enter Tryd.func100, Tryd.ntmps100
  go_wp2_with fail
  go_quiet (fail)
  clear hand
  go_wp2_with fail
  go_end0
  exact ⟨rfl, nq, by simp⟩

/-- on the way through Take: the reader is at a, so far v was read -/
structure TS (w : World) (rb pb vb : Nat) (s : ByteArray) (a v : Nat) (wr : World) : Prop where
  kp : Keeps w wr (fun b => b = rb)
  rd : wr.heap[rb]? = some (.cells #[.string s, .int .i64 (a : Int)] 93 (0, 0))
  pt : wr.cell? ⟨pb, 0, none⟩ = some (.pointer (some ⟨rb, 0, none⟩))
  va : wr.heap[vb]? = some (.cells #[.int .u64 (v : Int)] 76 (0, 0))
theorem TS.step {w wr : World} {rb pb vb : Nat} {s : ByteArray} {a v : Nat} (h : TS w rb pb vb s a v wr) (hpv : pb ≠ vb) (hrv : rb ≠ vb) (hpr : pb ≠ rb) (hvw : w.heap.size ≤ vb) (q a' v' : Nat) :
    TS w rb pb vb s a' v' (((wr.drewN q).setCell ⟨vb, 0, none⟩ (.int .u64 (v' : Int))).setCell ⟨rb, 1, none⟩ (.int .i64 (a' : Int))) := by
  have e1 : (wr.drewN q).heap[rb]? = some (.cells #[.string s, .int .i64 (a : Int)] 93 (0, 0)) := h.rd
  have e2 : (wr.drewN q).heap[vb]? = some (.cells #[.int .u64 (v : Int)] 76 (0, 0)) := h.va
  have e3 : (wr.drewN q).cell? ⟨pb, 0, none⟩ = some (.pointer (some ⟨rb, 0, none⟩)) := h.pt
  have kp := h.kp.drewN q
  generalize wr.drewN q = wq at e1 e2 e3 kp ⊢
  refine ⟨(kp.setCell (.inr hvw) _).setCell (.inl rfl) _, ?_, ?_, ?_⟩
  · rw [heap_setCell_same _ rb 1 _ _ _ ((Below.heap_setCell wq ⟨vb, 0, none⟩ _ rb hrv).trans e1)]
    rfl
  · rw [World.cell?_of_block (w := wq) ((Below.heap_setCell _ ⟨rb, 1, none⟩ _ pb hpr).trans (Below.heap_setCell wq ⟨vb, 0, none⟩ _ pb hpv))]
    exact e3
  · rw [Below.heap_setCell _ ⟨rb, 1, none⟩ _ vb (Ne.symm hrv), heap_setCell_same wq vb 0 _ _ _ e2]
    rfl

set_option maxRecDepth 100000 in
set_option maxHeartbeats 3200000 in
theorem Take_any (x : Nat → Nat) (c : Nat) (w : World) (rb : Nat) (s : ByteArray) (a n : Nat) (hn : n ≤ 64) (ha : a + n ≤ 8 * s.size) (h : RdC x c w rb s a) :
    Calls Tryd.prog 77 #[.pointer (some ⟨rb, 0, none⟩), .int .i64 (n : Int)] w fun e w' =>
      e = .returned (.tuple #[.int .u64 ((num (((unpack (nats s)).drop a).take n) : Nat) : Int), .int .i64 0]) ∧ ∃ x', Fr x x' (fun e => e = c) w w' ∧ RdC x' c w' rb s (a + n) := by
  have H := Lib.hid h
  obtain ⟨h0, hx, hb, hs⟩ := h
  have hrl := lt_of_block h0
  have W1 : Hid (RdC (paint x w.heap.size c) c (w.alloc (.cells #[.pointer (some ⟨rb, 0, none⟩)] 52)) rb s a) := Lib.hid ⟨(Below.heap_alloc _ _ _ hrl).trans h0, by rw [paint_old hrl]; exact hx, hb, hs⟩
  clear h0
  obtain ⟨B, hB⟩ : ∃ B, (unpack (nats s)).drop a = B := ⟨_, rfl⟩
  have HB := Lib.hid hB
  rw [hB]
  clear hB
  have i1 : decide ((n : Int) < 0) = false := decide_eq_false (by omega)
  have i2 : decide ((64 : Int) < (n : Int)) = false := decide_eq_false (by omega)
  have i3 : decide (8 * s.size - a < n) = false := decide_eq_false (by omega)
  have i4 : decide (((8 * s.size - a : Nat) : Int) < (n : Int)) = false := decide_eq_false (by omega)
  go_enter Tryd.func77, Tryd.ntmps77
  go_wp2_with fail
  refine (left_any _ c _ rb s a W1.out).mono ?_
  rintro e w1 ⟨rfl, m1, rfl⟩
  obtain ⟨pb, hpb⟩ : ∃ p, w.heap.size = p := ⟨_, rfl⟩
  have T0 : Hid (TS w rb pb (pb + 1) s a 0 (((w.alloc (.cells #[.pointer (some ⟨rb, 0, none⟩)] 52)).drewN m1).alloc (.cells #[.int .u64 0] 76))) := Lib.hid (by
    have w1 : ((w.alloc (.cells #[.pointer (some ⟨rb, 0, none⟩)] 52)).drewN m1).heap.size = pb + 1 := by
      show (w.alloc _).heap.size = _
      rw [← hpb]; simp
    have k1 : ((w.alloc (.cells #[.pointer (some ⟨rb, 0, none⟩)] 52)).drewN m1).heap[rb]? = some (.cells #[.string s, .int .i64 (a : Int)] 93 (0, 0)) := W1.out.1
    have k2 : ((w.alloc (.cells #[.pointer (some ⟨rb, 0, none⟩)] 52)).drewN m1).heap[pb]? = some (.cells #[.pointer (some ⟨rb, 0, none⟩)] 52 (0, 0)) := by rw [← hpb]; exact heap_alloc_new w _
    have kp : Keeps w ((w.alloc (.cells #[.pointer (some ⟨rb, 0, none⟩)] 52)).drewN m1) (fun b => b = rb) := ((Keeps.refl w _).alloc _).drewN m1
    generalize (w.alloc (.cells #[.pointer (some ⟨rb, 0, none⟩)] 52)).drewN m1 = wq at w1 k1 k2 kp ⊢
    refine ⟨kp.alloc _, (Below.heap_alloc _ _ _ (lt_of_block k1)).trans k1, ?_, ?_⟩
    · rw [World.cell?_of_block (w := wq) (Below.heap_alloc _ _ _ (lt_of_block k2)), cell_of_row _ _ _ _ _ _ k2]
      rfl
    · rw [← w1]; exact heap_alloc_new wq _)
  go_upto_region 9 with fail
  try rw [hpb]
  have hvw : w.heap.size ≤ pb + 1 := by omega
  have hpr : pb ≠ rb := by omega
  have hrv : rb ≠ pb + 1 := by omega
  have hpv : pb ≠ pb + 1 := by omega
  obtain ⟨vb, hvb⟩ : ∃ v, pb + 1 = v := ⟨_, rfl⟩
  rw [hvb] at T0 hvw hrv hpv ⊢
  generalize World.alloc _ _ = W2 at T0 ⊢
  clear hvb hpb i1 i2 i3 i4
  go_loopw [1] (fun i wr => ∃ m : Nat, i = .int .i64 m ∧ m ≤ n ∧ TS w rb pb vb s (a + (n - m)) (num (B.take (n - m))) wr) (fun i _ => (intOf i).toNat)
  case atStart => exact ⟨n, rfl, Nat.le_refl _, by rw [Nat.sub_self]; exact T0.out⟩
  case round =>
    obtain ⟨m, rfl, hm, hT⟩ := hrel
    have TT := Lib.hid hT
    by_cases h0 : 0 < m
    · obtain ⟨a2, ha2⟩ : ∃ k, a + (n - m) = k := ⟨_, rfl⟩
      obtain ⟨v2, hv2⟩ : ∃ k, num (B.take (n - m)) = k := ⟨_, rfl⟩
      rw [ha2, hv2] at TT hT
      have c1 : wr.cell? ⟨rb, 1, none⟩ = some (.int .i64 (a2 : Int)) := by rw [cell_of_row wr rb _ _ _ _ hT.rd]; rfl
      have cp := hT.pt
      have hab : a2 + m ≤ 8 * s.size := by omega
      obtain ⟨r, hr⟩ : ∃ r, a2 % 8 = r := ⟨_, rfl⟩
      have ha7 := and7 a2 (by omega)
      rw [hr] at ha7
      have hr8 : r < 8 := by omega
      obtain ⟨t, ht⟩ : ∃ t : Nat, t = min m (8 - r) := ⟨_, rfl⟩
      have ht0 : 0 < t := by omega
      have htm : t ≤ m := by omega
      have htr : t ≤ 8 - r := by omega
      have hmin : (if 8 - (r : Int) < (m : Int) then 8 - (r : Int) else (m : Int)) = (t : Int) := by split <;> omega
      have NX : Hid (num (B.take (n - (m - t))) = v2 * 2 ^ t + num (((unpack (nats s)).drop a2).take t)) := Lib.hid (by
        have hlen : (((unpack (nats s)).drop a2).take t).length = t := by
          rw [List.length_take, List.length_drop, unpack_length, nats_length]
          omega
        have e : (B.drop (n - m)).take t = ((unpack (nats s)).drop a2).take t := by rw [← HB.out, List.drop_drop, ha2]
        rw [show n - (m - t) = (n - m) + t by omega, List.take_add, num_append, hv2, e, hlen])
      have LT : Hid (v2 * 2 ^ t + num (((unpack (nats s)).drop a2).take t) < 18446744073709551616) := Lib.hid (by
        rw [← NX.out]
        refine Nat.lt_of_lt_of_le (num_lt _) ?_
        calc 2 ^ (B.take (n - (m - t))).length ≤ 2 ^ 64 := Nat.pow_le_pow_right (by decide) (by rw [List.length_take]; omega)
          _ = 18446744073709551616 := by decide)
      have SH := Lib.hid (shift_any s a2 v2 t rb pb vb wr (by rw [hr]; exact htr) (by omega) hs hT.pt hT.rd hT.va hpv hrv LT.out)
      have HA2 := Lib.hid ha2
      clear hT ha2 hv2 hr ht
      go_wp2_with fail
      refine SH.out.mono ?_
      rintro e w3 ⟨rfl, q, rfl⟩
      have T3 : Hid (TS w rb pb vb s (a + (n - (m - t))) (num (B.take (n - (m - t)))) _) := Lib.hid (by
        have := TT.out.step hpv hrv hpr hvw q (a2 + t) (v2 * 2 ^ t + num (((unpack (nats s)).drop a2).take t))
        rw [← NX.out, show a2 + t = a + (n - (m - t)) by have := HA2.out; omega] at this
        exact this)
      rw [← NX.out, show a2 + t = a + (n - (m - t)) by have := HA2.out; omega]
      generalize World.setCell _ _ _ = W3 at T3 ⊢
      clear SH TT cp c1 ha7 hmin
      have hw1 : IntKind.i64.wrap ((m : Int) - (t : Int)) = ((m - t : Nat) : Int) := by rw [IntWalk.i64_in _ (by omega)]; omega
      go_wp2_with fail
      go_roundw
      case rel =>
        exact ⟨m - t, by go_num, by omega, T3.out⟩
      case measure => simp [intOf]; omega
    · have hm0 : m = 0 := by omega
      subst hm0
      rw [Nat.sub_zero] at TT hT
      have cv : wr.cell? ⟨vb, 0, none⟩ = some (.int .u64 ((num (B.take n) : Nat) : Int)) := by rw [cell_of_row wr vb _ _ _ _ hT.va]; rfl
      have FIN : Hid (∃ x', Fr x x' (fun e => e = c) w wr ∧ RdC x' c wr rb s (a + n)) := Lib.hid ⟨_, TT.out.kp.fr (c := c) rfl (fun b _ hS => by rw [hS]; exact hx), TT.out.rd, by rw [paint_old hrl]; exact hx, by omega, hs⟩
      clear hT
      go_wp2_with fail
      go_ret2
      exact ⟨rfl, FIN.out⟩
end Go.Proofs.YtflnpcgnenhogaaDoor.bit
namespace Go.Proofs.YtflnpcgnenhogaaDoor.own
open Go.RowKit

theorem own_slice {w : World} {base : Nat} {e : TypeId} {size n : Nat} {v : Value} {xs : List Value} (h : w.ownsRow base e size v n xs) : ∃ a cap, v = .slice a n cap ∧ n ≤ cap := by
  rcases h.2 with ⟨rfl, h0⟩ | ⟨g, cap, cur, rfl, _, _, hn, _⟩
  · exact ⟨none, 0, by rw [h0], by omega⟩
  · exact ⟨_, _, rfl, hn⟩

theorem run_append_row {P : Program} (w : World) (base base' : Nat) (t ty e : TypeId) (i : TypeInfo) (z : Value) (bytes : Nat) (ht : P.underlying t = some (.slice e)) (hi : P.info? e = some i) (hz : i.zero = some z)
    (hsize : i.size = 1) (hby : i.bytes = bytes) (hzs : z.cells.size = 1)
    (v : Value) (n : Nat) (xs : List Value) (hown : w.ownsRow base e 1 v n xs) (u : Value) (m : Nat) (ys : List Value) (hsrc : w.ownsRow base' e 1 u m ys) (h1 : ∀ y ∈ ys, y.oneCell' = true)
    (h63 : n + m ≤ maxLen) (hbytes : (n + m) * bytes ≤ 140737488355328) (hbase : base ≤ w.heap.size) :
    ∃ v' w', (Builtin.append_ #[t, t] ty #[v, u]).run P w = .ok v' w' ∧ w'.ownsRow base e 1 v' (n + m) (xs ++ ys) ∧ w.grownBy w' v.ownBlock ∧ (v'.ownBlock = v.ownBlock ∨ v'.ownBlock = some w.heap.size) := by
  obtain ⟨av, cv, hv, hle⟩ := own_slice hown
  by_cases hm : m = 0
  · subst hm
    have hys : ys = [] := List.eq_nil_of_length_eq_zero (by have := hsrc.1; simpa using this)
    subst hys
    have hs : Src P i.size t u 0 [] w := by
      rcases hsrc.2 with ⟨rfl, _⟩ | ⟨g, cap, cur, rfl, _⟩
      · exact Src.ofNil w ht 0
      · exact Src.ofSlice w ht _ 0 cap [] (by simp) (fun j u hu => by simp at hu) (fun u hu => by cases hu)
    subst hv
    refine ⟨_, w, run_append_nothing w t t ty e i ht hi av n cv hle u hs, ?_, ⟨rfl, rfl, rfl, Nat.le_refl _, fun _ _ _ => rfl⟩, .inl rfl⟩
    rw [List.append_nil]
    exact hown
  · rcases hsrc.2 with ⟨_, h0⟩ | ⟨g, cap, cur, rfl, hb, hg, hn, hcm, hcs, htake⟩
    · exact absurd h0 hm
    · have hcells : ∀ j u, ys[j]? = some u → w.cell? ((⟨g, 0, none⟩ : Addr).add j) = some u := hsrc.cells (g := g) rfl
      have hlen : ys.length = m * 1 := hsrc.1
      obtain ⟨v', w', hr, h2, h3, _⟩ := run_append_own (P := P) w base t ty e i z 1 bytes ht hi hz hsize hby hzs (by decide) v n xs hown ⟨g, 0, none⟩ m cap ys hlen hcells h1 h63 hbytes hbase
      exact ⟨v', w', hr, h2, h3, append_where w base t ty e i z 1 bytes ht hi hz hsize hby v n xs hown ⟨g, 0, none⟩ m cap ys hlen hcells h1 h63 hbytes (by omega) hr⟩

theorem wpList_append_row {P : Program} (w : World) {ops : Array Oper} {rest : List Oper} {o : Oper} {a : Act} {Q : Exit → Act → World → Prop} (hgd : o.guard = none) (s x : Operand) (t : TypeId)
    (ho : o.op = .call { callee := .builtin .append, args := #[s, x], argTypes := #[t, t] })
    (base base' : Nat) (e : TypeId) (i : TypeInfo) (z : Value) (bytes : Nat) (ht : P.underlying t = some (.slice e)) (hi : P.info? e = some i) (hz : i.zero = some z)
    (hsize : i.size = 1) (hby : i.bytes = bytes) (hzs : z.cells.size = 1)
    (v : Value) (n : Nat) (xs : List Value) (hs : a.eval s = v) (hown : w.ownsRow base e 1 v n xs) (u : Value) (m : Nat) (ys : List Value) (hx : a.eval x = u) (hsrc : w.ownsRow base' e 1 u m ys) (h1 : ∀ y ∈ ys, y.oneCell' = true)
    (h63 : n + m ≤ maxLen) (hbytes : (n + m) * bytes ≤ 140737488355328) (hbase : base ≤ w.heap.size)
    (h : ∀ v' w', w'.ownsRow base e 1 v' (n + m) (xs ++ ys) → w.grownBy w' v.ownBlock → (v'.ownBlock = v.ownBlock ∨ v'.ownBlock = some w.heap.size) → wpList P ops Q rest (a.put o.dst v') w') :
    wpList P ops Q (o :: rest) a w := by
  refine wpList_plain hgd fun K hK => ?_
  obtain ⟨v', w', hr, h2, h3, h4⟩ := run_append_row (P := P) w base base' t o.type e i z bytes ht hi hz hsize hby hzs v n xs hown u m ys hsrc h1 h63 hbytes hbase
  unfold Oper.wp execOp
  simp only [ho, resolve, invoke, builtin, Sem.run_bind, Sem.run_pure, Result.andThen_ok, List.map_toArray, List.map_cons, List.map_nil, hs, hx, hr]
  exact hK _ _ (h v' w' h2 h3 h4)

end Go.Proofs.YtflnpcgnenhogaaDoor.own
namespace Go.Proofs.YtflnpcgnenhogaaDoor.bit

theorem num_zeros (n : Nat) (r : Bits) : num (List.replicate n false ++ r) = num r := by
  induction n with
  | zero => rfl
  | succ n ih => rw [List.replicate_succ, List.cons_append, num, ih]; simp
theorem ofN_snoc (a k v : Nat) : ofN (a + 1) (v / 2 ^ k) = ofN a (v / 2 ^ (k + 1)) ++ [v / 2 ^ k % 2 == 1] := by
  rw [ofN_split a 1 (v / 2 ^ k), Nat.div_div_eq_div_mul, ← Nat.pow_add]
  simp [ofN]
theorem or_add (p a y : Nat) (hy : y < 2 ^ p) : (2 ^ (p + 1) * a + y) ||| 2 ^ p = 2 ^ (p + 1) * a + y + 2 ^ p := by
  have h1 : 2 ^ (p + 1) * a + y = 2 ^ p * (2 * a) + y := by rw [Nat.pow_succ]; simp [Nat.mul_assoc]
  have h2 : 2 ^ p * (2 * a) + y + 2 ^ p = 2 ^ p * (2 * a + 1) + y := by rw [Nat.mul_add]; omega
  rw [h1, h2]
  apply Nat.eq_of_testBit_eq
  intro i
  rw [Nat.testBit_or, Nat.testBit_two_pow_mul_add _ hy, Nat.testBit_two_pow_mul_add _ hy, Nat.testBit_two_pow]
  by_cases h : i < p
  · have : ¬ p = i := by omega
    simp [h, this]
  · rw [if_neg h, if_neg h]
    by_cases e : p = i
    · subst e
      simp
    · obtain ⟨m, hm⟩ : ∃ m, i - p = m + 1 := ⟨i - p - 1, by omega⟩
      have e1 : (2 * a + 1) / 2 = a := by omega
      have e2 : (2 * a) / 2 = a := by omega
      rw [hm, Nat.testBit_succ, Nat.testBit_succ, e1, e2]
      simp [e]

theorem byteOf_set (p : Bits) (h8 : p.length ≤ 8) (i : Nat) (hi : i < p.length) (h : p[i] = false) : byteOf (p.set i true) = byteOf p ||| 2 ^ (7 - i) := by
  have e0 : p = p.take i ++ false :: p.drop (i + 1) := by
    conv => lhs; rw [← List.take_append_drop i p]
    rw [List.drop_eq_getElem_cons hi, h]
  obtain ⟨A, hA⟩ : ∃ A, p.take i = A := ⟨_, rfl⟩
  obtain ⟨B, hB⟩ : ∃ B, p.drop (i + 1) = B := ⟨_, rfl⟩
  have hAl : A.length = i := by rw [← hA, List.length_take]; omega
  have hBl : B.length = p.length - (i + 1) := by rw [← hB, List.length_drop]
  have e1 : p.set i true = A ++ true :: B := by
    rw [List.set_eq_take_append_cons_drop, if_pos hi, hA, hB]
  rw [hA, hB] at e0
  have hlen : (p.set i true).length = p.length := List.length_set
  unfold byteOf
  rw [hlen, e1]
  conv => rhs; rw [e0]
  have hl2 : (A ++ false :: B).length = p.length := by rw [← e0]
  rw [hl2, num_append, num_append, num, num, List.length_cons, List.length_cons]
  have hlt := num_lt B
  obtain ⟨d, hd⟩ : ∃ d, 8 - p.length = d := ⟨_, rfl⟩
  obtain ⟨b, hb⟩ : ∃ b, B.length = b := ⟨_, rfl⟩
  rw [hb] at hlt hBl ⊢
  rw [hd, show 7 - i = b + d by omega]
  have hy : num B * 2 ^ d < 2 ^ (b + d) := by
    rw [Nat.pow_add]
    exact Nat.mul_lt_mul_of_pos_right hlt (Nat.pow_pos (by decide))
  have e3 : (num A * 2 ^ (b + 1) + ((if false = true then 2 ^ b else 0) + num B)) * 2 ^ d = 2 ^ (b + d + 1) * num A + num B * 2 ^ d := by
    rw [Nat.add_mul]
    simp only [Bool.false_eq_true, if_false, Nat.zero_add]
    rw [Nat.mul_assoc, ← Nat.pow_add, show b + 1 + d = b + d + 1 by omega, Nat.mul_comm]
  have e4 : (num A * 2 ^ (b + 1) + ((if true = true then 2 ^ b else 0) + num B)) * 2 ^ d = 2 ^ (b + d + 1) * num A + num B * 2 ^ d + 2 ^ (b + d) := by
    simp only [if_true]
    rw [Nat.add_mul, Nat.add_mul, Nat.mul_assoc, ← Nat.pow_add, show b + 1 + d = b + d + 1 by omega, Nat.mul_comm (num A), ← Nat.pow_add]
    omega
  rw [e3, e4, or_add _ _ _ hy]

theorem packN_set : ∀ (n : Nat) (l : Bits) (i : Nat), l.length ≤ n → (hi : i < l.length) → l[i] = false → packN (l.set i true) = (packN l).set (i / 8) ((packN l).getD (i / 8) 0 ||| 2 ^ (7 - i % 8))
  | 0, l, i, h0, hi, _ => by omega
  | n + 1, l, i, hn, hi, h => by
    have hne : l ≠ [] := by rintro rfl; simp at hi
    have hne2 : l.set i true ≠ [] := by intro e; have := congrArg List.length e; rw [List.length_set] at this; simp at this; exact hne this
    rw [packN_cons hne, packN_cons hne2]
    by_cases h8 : i < 8
    · rw [show i / 8 = 0 by omega, show i % 8 = i by omega, List.set_cons_zero, List.getD_cons_zero]
      have e1 : (l.set i true).take 8 = (l.take 8).set i true := by rw [List.take_set]
      have e2 : (l.set i true).drop 8 = l.drop 8 := by rw [List.drop_set, if_pos h8]
      have hl8 : i < (l.take 8).length := by rw [List.length_take]; omega
      rw [e1, e2, byteOf_set _ (by rw [List.length_take]; omega) i hl8 (by rw [List.getElem_take]; exact h)]
    · obtain ⟨j, rfl⟩ : ∃ j, i = j + 8 := ⟨i - 8, by omega⟩
      have e1 : (l.set (j + 8) true).take 8 = l.take 8 := by rw [List.take_set, List.set_eq_of_length_le (by rw [List.length_take]; omega)]
      have e2 : (l.set (j + 8) true).drop 8 = (l.drop 8).set j true := by rw [List.drop_set, if_neg h8]; congr 1
      have ih := packN_set n (l.drop 8) j (by rw [List.length_drop]; omega) (by rw [List.length_drop]; omega) (by rw [List.getElem_drop]; simp only [Nat.add_comm 8 j]; exact h)
      rw [e1, e2, ih, show (j + 8) / 8 = j / 8 + 1 by omega, show (j + 8) % 8 = j % 8 by omega, List.set_cons_succ, List.getD_cons_succ]

theorem packN_zeros : ∀ (n : Nat), packN (List.replicate n false) = List.replicate ((n + 7) / 8) 0 := by
  have num0 : ∀ m, num (List.replicate m false) = 0 := fun m => by
    have h := num_zeros m []
    rwa [List.append_nil] at h
  intro n
  induction n using Nat.strongRecOn with
  | _ n ih =>
    by_cases h : n = 0
    · subst h; simp [packN_nil]
    · have hne : List.replicate n false ≠ [] := by intro e; have := congrArg List.length e; simp at this; exact h this
      rw [packN_cons hne, List.drop_replicate, ih (n - 8) (by omega), List.take_replicate]
      unfold byteOf
      rw [num0, Nat.zero_mul]
      rw [show (n + 7) / 8 = (n - 8 + 7) / 8 + 1 by omega, List.replicate_succ]

/-- what stands in the bytes after so many bits: the others are 0 yet -/
def part (l : Bits) (k : Nat) : Bits := l.take k ++ List.replicate (l.length - k) false
theorem part_length (l : Bits) (k : Nat) (h : k ≤ l.length) : (part l k).length = l.length := by
  unfold part
  rw [List.length_append, List.length_take, List.length_replicate]
  omega
theorem part_step (l : Bits) (k : Nat) (h : k < l.length) : part l (k + 1) = if l[k] then (part l k).set k true else part l k := by
  have hr : List.replicate (l.length - k) false = false :: List.replicate (l.length - (k + 1)) false := by
    rw [← List.replicate_succ]; congr 1; omega
  have hk : (l.take k).length = k := by rw [List.length_take]; omega
  unfold part
  rw [hr, List.take_succ_eq_append_getElem h]
  cases hb : l[k]
  · simp
  · simp only [if_true]
    rw [List.set_append_right _ _ (by omega), hk, Nat.sub_self, List.set_cons_zero]
    simp
theorem part_get (l : Bits) (k : Nat) (h : k < l.length) (h' : k < (part l k).length) : (part l k)[k] = false := by
  have hk : (l.take k).length = k := by rw [List.length_take]; omega
  have e : ∀ (m : Bits) (hm : k < m.length), m = l.take k ++ List.replicate (l.length - k) false → m[k] = false := by
    intro m hm em
    subst em
    rw [List.getElem_append_right (by omega)]
    simp
  exact e _ h' rfl
theorem part_zero (l : Bits) : packN (part l 0) = List.replicate ((l.length + 7) / 8) 0 := by
  unfold part
  rw [List.take_zero, List.nil_append, Nat.sub_zero, packN_zeros]
theorem part_all (l : Bits) : part l l.length = l := by
  unfold part
  rw [List.take_length, Nat.sub_self]
  simp
end Go.Proofs.YtflnpcgnenhogaaDoor.bit
