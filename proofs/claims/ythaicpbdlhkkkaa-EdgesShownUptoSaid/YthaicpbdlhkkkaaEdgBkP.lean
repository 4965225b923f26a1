/- Statement EdgesBack, the plain law: a text of edges is read as these edges, also with lines between that say nothing; rows of the same members are one row that rises. -/
import Derived.Test.YthaicpbdlhkkkaaEdgShow
import Derived.Test.YthaicpbdlhkkkaaEdgGrV
namespace Go.Proofs.Ythaicpbdlhkkkaa.edg
open Go.RowKit Go.Proofs.Ythaicpbdlhkkkaa.so Go.Lib

/-! ### a number's digits are read as the number -/
theorem dig_range (n : Nat) : ∀ c ∈ decDigits n, 48 ≤ c.toNat ∧ c.toNat ≤ 57 := by
  induction n using Nat.strongRecOn with
  | _ n ih =>
    have one : ∀ q, q < 10 → (UInt8.ofNat (48 + q)).toNat = 48 + q := fun q hq => by show (48 + q) % 256 = 48 + q; omega
    intro c hc
    rw [decDigits] at hc
    split at hc
    · simp only [List.mem_singleton] at hc
      subst hc
      rw [one n (by assumption)]
      omega
    · rcases List.mem_append.1 hc with hc | hc
      · exact ih (n / 10) (by omega) c hc
      · simp only [List.mem_singleton] at hc
        subst hc
        rw [one _ (by omega)]
        omega
theorem digs_append (a b : B) : ∀ v, digs v (a ++ b) = (digs v a).bind fun x => digs x b := by
  induction a with
  | nil => intro v; rfl
  | cons c r ih =>
    intro v
    rw [List.cons_append]
    simp only [digs]
    split
    · rfl
    · exact ih _
theorem digs_dec (n : Nat) : digs 0 (decDigits n) = some n := by
  induction n using Nat.strongRecOn with
  | _ n ih =>
    have one : ∀ q, q < 10 → (UInt8.ofNat (48 + q)).toNat = 48 + q := fun q hq => by show (48 + q) % 256 = 48 + q; omega
    rw [decDigits]
    split
    · rename_i h
      simp only [digs]
      rw [one n h, if_neg (by omega)]
      simp only [Nat.mul_zero, Nat.zero_add]
      congr 1
      omega
    · rw [digs_append, ih (n / 10) (by omega)]
      simp only [Option.bind_some, digs]
      rw [one _ (by omega), if_neg (by omega)]
      congr 1
      omega
theorem dec_head (n : Nat) (h : 0 < n) : (decDigits n).head? ≠ some 48 := by
  induction n using Nat.strongRecOn with
  | _ n ih =>
    rw [decDigits]
    split
    · rename_i h10
      simp only [List.head?_cons]
      intro e
      injection e with e
      have e2 := congrArg UInt8.toNat e
      have : (UInt8.ofNat (48 + n)).toNat = 48 + n := by show (48 + n) % 256 = 48 + n; omega
      rw [this] at e2
      have h48 : (48 : UInt8).toNat = 48 := rfl
      omega
    · rename_i h10
      have hne := decDigits_pos (n / 10)
      have := ih (n / 10) (by omega) (by omega)
      rcases hd : decDigits (n / 10) with _ | ⟨c, r⟩
      · rw [hd] at hne; simp at hne
      · rw [hd] at this; simpa using this
theorem number_dec (n : Nat) (h : n < 100000) : number (decDigits n) = some n := by
  have hl : (decDigits n).length ≤ 5 := by
    rw [decDigits_length]
    exact nDigits_le 4 n (by omega)
  have hp := decDigits_pos n
  unfold number
  rw [if_neg, digs_dec]
  rintro (e | e | ⟨e, e2⟩)
  · omega
  · omega
  · by_cases h0 : 0 < n
    · exact dec_head n h0 e2
    · have : n = 0 := by omega
      subst this
      rw [decDigits_one (by decide)] at e
      simp at e

/-! ### lines -/
theorem cutAt_mid (c : UInt8) (x r : B) (h : c ∉ x) : cutAt c (x ++ c :: r) = (x, r, true) := by
  induction x with
  | nil => simp [cutAt]
  | cons a x ih =>
    have h1 : a ≠ c := fun e => h (by simp [e])
    have h2 : c ∉ x := fun e => h (by simp [e])
    rw [List.cons_append]
    simp only [cutAt, if_neg h1, ih h2]
theorem lines_mid (x r : B) (h : (10 : UInt8) ∉ x) : lines (x ++ 10 :: r) = x :: lines r := by
  rw [lines_cut _ (by simp), cutAt_mid 10 x r h]
theorem dec_not (n : Nat) (c : UInt8) (h : c.toNat < 48) : c ∉ decDigits n := fun e => by have := (dig_range n c e).1; omega
theorem edgeOf_dec (k f t : Nat) (hk : k ≤ 65536) (hf : f < k) (ht : t < k) : edgeOf (k : Int) (decDigits f ++ 32 :: decDigits t) = some (f, t) := by
  unfold edgeOf
  rw [cutAt_mid 32 _ _ (dec_not f 32 (by decide))]
  simp only [number_dec f (by omega), number_dec t (by omega)]
  rw [if_neg (by decide), if_pos (by omega)]
theorem dec_loud (f : Nat) (r : B) : silent (decDigits f ++ 32 :: r) = false := by
  have hp := decDigits_pos f
  rcases h : decDigits f with _ | ⟨c, l⟩
  · rw [h] at hp; simp at hp
  · have := dig_range f c (by rw [h]; simp)
    unfold silent
    simp only [List.cons_append, List.isEmpty_cons, List.head?_cons, Bool.false_or]
    apply beq_eq_false_iff_ne.2
    intro e
    injection e with e
    subst e
    have h35 : (35 : UInt8).toNat = 35 := rfl
    omega
/-- a text tells these edges, and no bad line -/
def Tells (k : Nat) (s : B) (l : List (Nat × Nat)) : Prop := ∀ m, (scan (k : Int) (lines s) m).1.map (·.1) = l ∧ (scan (k : Int) (lines s) m).2 = 0
theorem Tells.nil (k : Nat) : Tells k [] [] := fun _ => ⟨rfl, rfl⟩
theorem Tells.edge {k f t : Nat} {r : B} {l : List (Nat × Nat)} (hk : k ≤ 65536) (hf : f < k) (ht : t < k) (h : Tells k r l) : Tells k (decDigits f ++ 32 :: (decDigits t ++ 10 :: r)) ((f, t) :: l) := by
  intro m
  have e : decDigits f ++ 32 :: (decDigits t ++ 10 :: r) = (decDigits f ++ 32 :: decDigits t) ++ 10 :: r := by simp
  rw [e, lines_mid]
  · have g := h (m + 1)
    simp only [scan]
    rw [dec_loud]
    simp only [Bool.false_eq_true, if_false]
    rw [edgeOf_dec k f t hk hf ht]
    exact ⟨by simp [g.1], g.2⟩
  · intro hc
    rcases List.mem_append.1 hc with hc | hc
    · exact dec_not f 10 (by decide) hc
    · rcases List.mem_cons.1 hc with hc | hc
      · revert hc; decide
      · exact dec_not t 10 (by decide) hc
theorem Tells.quiet {k : Nat} {x r : B} {l : List (Nat × Nat)} (hx : (10 : UInt8) ∉ x) (h : Tells k r l) : Tells k (35 :: (x ++ 10 :: r)) l := by
  intro m
  have e : 35 :: (x ++ 10 :: r) = (35 :: x) ++ 10 :: r := rfl
  rw [e, lines_mid]
  · have g := h (m + 1)
    simp only [scan]
    have hs : silent (35 :: x) = true := by simp [silent]
    rw [hs]
    exact g
  · intro hc
    rcases List.mem_cons.1 hc with hc | hc
    · revert hc; decide
    · exact hx hc
theorem Tells.empty {k : Nat} {r : B} {l : List (Nat × Nat)} (h : Tells k r l) : Tells k (10 :: r) l := by
  intro m
  have e : (10 : UInt8) :: r = [] ++ 10 :: r := rfl
  rw [e, lines_mid _ _ (by simp)]
  have g := h (m + 1)
  simp only [scan]
  have hs : silent ([] : B) = true := rfl
  rw [hs]
  exact g
theorem Tells.res {k : Nat} {s : B} {l : List (Nat × Nat)} (h : Tells k s l) (hk : k ≤ 65536) (hs : s.length ≤ 16777216) : parseRes (k : Int) ⟨s.toArray⟩ = (l, 0, 0) := by
  unfold parseRes
  have hm : mayRead (k : Int) ⟨s.toArray⟩ = true := by
    unfold mayRead
    simp [ByteArray.size]
    omega
  rw [if_pos hm]
  have g := h 0
  rw [if_neg (by show ¬ 0 < (scan (k : Int) (lines s) 0).2; rw [g.2]; decide)]
  show ((scan (k : Int) (lines s) 0).1.map (·.1), 0, 0) = _
  rw [g.1]
theorem showL_cons (t : Nat × Nat) (l : List (Nat × Nat)) : showL (t :: l) = decDigits t.1 ++ 32 :: (decDigits t.2 ++ 10 :: showL l) := by
  show (decDigits t.1 ++ 32 :: (decDigits t.2 ++ [10])) ++ showL l = _
  simp
theorem tells_show (k : Nat) (hk : k ≤ 65536) : ∀ l : List (Nat × Nat), (∀ t ∈ l, t.1 < k ∧ t.2 < k) → Tells k (showL l) l
  | [], _ => Tells.nil k
  | t :: l, h => by
    rw [showL_cons]
    exact Tells.edge hk (h t (by simp)).1 (h t (by simp)).2 (tells_show k hk l (fun x hx => h x (by simp [hx])))
/-- a line up to its end, and no more than 100 bytes of it -/
def plainS (s : B) : B := (s.take 100).takeWhile (fun c => c != 10)
theorem plainS_not (s : B) : (10 : UInt8) ∉ plainS s := fun h => by
  have h2 := List.all_takeWhile (p := fun c : UInt8 => c != 10) (l := s.take 100)
  have h3 := List.all_eq_true.1 h2 _ h
  revert h3
  decide
theorem plainS_len (s : B) : (plainS s).length ≤ 100 := by
  unfold plainS
  exact Nat.le_trans (List.takeWhile_sublist _).length_le (by rw [List.length_take]; omega)
/-- what is put down for one edge -/
def seg (bs : List B) (l : List (Nat × Nat)) (i : Nat) : B := (if i < bs.length then 35 :: (plainS (bs.getD i []) ++ [10, 10]) else []) ++ showL [l.getD i (0, 0)]
def segs (bs : List B) (l : List (Nat × Nat)) (i : Nat) : B := (List.range i).flatMap (seg bs l)
theorem segs_succ (bs : List B) (l : List (Nat × Nat)) (i : Nat) : segs bs l (i + 1) = segs bs l i ++ seg bs l i := by
  unfold segs
  rw [List.range_succ, List.flatMap_append]
  simp
theorem tells_segs (k : Nat) (hk : k ≤ 65536) (bs : List B) (l : List (Nat × Nat)) : ∀ is : List Nat, (∀ i ∈ is, (l.getD i (0, 0)).1 < k ∧ (l.getD i (0, 0)).2 < k) → Tells k (is.flatMap (seg bs l)) (is.map fun i => l.getD i (0, 0))
  | [], _ => Tells.nil k
  | i :: is, h => by
    have g := tells_segs k hk bs l is (fun x hx => h x (by simp [hx]))
    have hi := h i (by simp)
    have e := Tells.edge hk hi.1 hi.2 g
    have e2 : decDigits (l.getD i (0, 0)).1 ++ 32 :: (decDigits (l.getD i (0, 0)).2 ++ 10 :: is.flatMap (seg bs l)) = showL [l.getD i (0, 0)] ++ is.flatMap (seg bs l) := by
      rw [showL_cons]
      simp [showL]
    rw [e2] at e
    rw [List.flatMap_cons, List.map_cons]
    unfold seg
    split
    · have e3 := Tells.quiet (plainS_not (bs.getD i [])) (Tells.empty e)
      have e4 : 35 :: (plainS (bs.getD i []) ++ 10 :: 10 :: (showL [l.getD i (0, 0)] ++ is.flatMap (seg bs l))) = (35 :: (plainS (bs.getD i []) ++ [10, 10]) ++ showL [l.getD i (0, 0)]) ++ is.flatMap (seg bs l) := by simp
      rw [e4] at e3
      exact e3
    · exact e
theorem tells_text (k : Nat) (hk : k ≤ 65536) (bs : List B) (l : List (Nat × Nat)) (h : ∀ t ∈ l, t.1 < k ∧ t.2 < k) : Tells k (segs bs l l.length) l := by
  have g := tells_segs k hk bs l (List.range l.length) (fun i hi => by
    have hi := List.mem_range.1 hi
    have e : l.getD i (0, 0) = l[i] := by simp [List.getD, hi]
    rw [e]
    exact h _ (List.getElem_mem hi))
  have e : (List.range l.length).map (fun i => l.getD i (0, 0)) = l := by
    apply List.ext_getElem?
    intro i
    by_cases hi : i < l.length
    · simp [List.getD, hi]
    · simp [hi]
  rw [e] at g
  exact g
theorem seg_len (bs : List B) (l : List (Nat × Nat)) (i : Nat) (h : (l.getD i (0, 0)).1 < 4294967296 ∧ (l.getD i (0, 0)).2 < 4294967296) : (seg bs l i).length ≤ 125 := by
  have h1 := showL_len [l.getD i (0, 0)] (fun t ht => by simp only [List.mem_singleton] at ht; rw [ht]; exact h)
  have h2 := plainS_len (bs.getD i [])
  unfold seg
  rw [List.length_append]
  simp only [List.length_cons, List.length_nil] at h1
  split
  · simp only [List.length_cons, List.length_append, List.length_nil]; omega
  · simp only [List.length_nil]; omega
theorem segs_len (bs : List B) (l : List (Nat × Nat)) (h : ∀ i, (l.getD i (0, 0)).1 < 4294967296 ∧ (l.getD i (0, 0)).2 < 4294967296) : ∀ i, (segs bs l i).length ≤ 125 * i
  | 0 => by simp [segs]
  | i + 1 => by
    rw [segs_succ, List.length_append]
    have := segs_len bs l h i
    have := seg_len bs l i (h i)
    omega

/-! ### rows -/
theorem srt_mem (xs : List Int) (x : Int) : x ∈ srt xs ↔ x ∈ xs := by
  unfold srt
  exact (List.mergeSort_perm _ _).mem_iff
theorem srt_sorted (xs : List Int) : (srt xs).Pairwise (· ≤ ·) := by
  have h := List.pairwise_mergeSort (le := fun x y : Int => decide (x ≤ y)) (fun a b c h1 h2 => by simp at h1 h2 ⊢; omega) (fun a b => by simp; omega) xs
  exact h.imp (fun h => by simpa using h)
theorem cpt_mem (ys : List Int) (x : Int) : x ∈ cpt ys ↔ x ∈ ys := by
  unfold cpt compactUpTo
  constructor
  · intro h
    obtain ⟨i, hi, rfl⟩ := List.mem_map.1 h
    have hi := List.mem_range.1 (List.mem_filter.1 hi).1
    have e : ys.toArray[i]! = ys[i] := by simp [hi]
    rw [e]
    exact List.getElem_mem hi
  · intro h
    obtain ⟨i, hi, rfl⟩ := List.getElem_of_mem h
    have : ∀ i, ∀ hi : i < ys.length, ∃ j, j < ys.length ∧ keeps ys.toArray j = true ∧ ys.toArray[j]! = ys[i] := by
      intro i
      induction i with
      | zero => intro hi; exact ⟨0, hi, by simp [keeps], by simp [hi]⟩
      | succ i ih =>
        intro hi
        by_cases e : keeps ys.toArray (i + 1) = true
        · exact ⟨i + 1, hi, e, by simp [hi]⟩
        · obtain ⟨j, hj, k1, k2⟩ := ih (by omega)
          refine ⟨j, hj, k1, ?_⟩
          rw [k2]
          unfold keeps at e
          have e2 : ys.toArray[i + 1]! = ys.toArray[i + 1 - 1]! := by
            by_cases q : ys.toArray[i + 1]! = ys.toArray[i + 1 - 1]!
            · exact q
            · exact absurd (decide_eq_true (.inr q)) e
          have a1 : ys.toArray[i + 1]! = ys[i + 1] := by simp [hi]
          have a2 : ys.toArray[i + 1 - 1]! = ys[i] := by simp [show i < ys.length by omega]
          rw [a1, a2] at e2
          exact e2.symm
    obtain ⟨j, hj, k1, k2⟩ := this i hi
    exact List.mem_map.2 ⟨j, List.mem_filter.2 ⟨List.mem_range.2 hj, k1⟩, k2⟩
theorem cpt_rises (ys : List Int) (h : ys.Pairwise (· ≤ ·)) : (cpt ys).Pairwise (· < ·) := by
  unfold cpt compactUpTo
  rw [List.pairwise_map, List.pairwise_filter]
  refine (List.pairwise_lt_range (n := ys.length)).imp_of_mem ?_
  intro i j hi hj hij _ kj
  have hi := List.mem_range.1 hi
  have hj := List.mem_range.1 hj
  have at_ : ∀ q (hq : q < ys.length), ys.toArray[q]! = ys[q] := fun q hq => by simp [hq]
  have le : ∀ p q (hp : p < ys.length) (hq : q < ys.length), p ≤ q → ys[p] ≤ ys[q] := fun p q hp hq hpq => by
    rcases Nat.lt_or_eq_of_le hpq with h1 | h1
    · exact List.pairwise_iff_getElem.1 h p q hp hq h1
    · subst h1; exact Int.le_refl _
  have kj2 : ys.toArray[j]! ≠ ys.toArray[j - 1]! := by
    unfold keeps at kj
    rcases of_decide_eq_true kj with e | e
    · omega
    · exact e
  rw [at_ j hj, at_ (j - 1) (by omega)] at kj2
  rw [at_ i hi, at_ j hj]
  have l1 := le i (j - 1) hi (by omega) (by omega)
  have l2 := le (j - 1) j (by omega) hj (by omega)
  omega
theorem rise_same : ∀ (a b : List Int), a.Pairwise (· < ·) → b.Pairwise (· < ·) → (∀ x, x ∈ a ↔ x ∈ b) → a = b
  | [], [], _, _, _ => rfl
  | [], y :: b, _, _, h => by have := (h y).2 (by simp); simp at this
  | x :: a, [], _, _, h => by have := (h x).1 (by simp); simp at this
  | x :: a, y :: b, ha, hb, h => by
    obtain ⟨ha1, ha2⟩ := List.pairwise_cons.1 ha
    obtain ⟨hb1, hb2⟩ := List.pairwise_cons.1 hb
    have exy : x = y := by
      have h1 := (h x).1 (by simp)
      have h2 := (h y).2 (by simp)
      rcases List.mem_cons.1 h1 with e | h1
      · exact e
      · rcases List.mem_cons.1 h2 with e | h2
        · exact e.symm
        · have := ha1 y h2
          have := hb1 x h1
          omega
    subst exy
    congr 1
    refine rise_same a b ha2 hb2 (fun z => ⟨fun hz => ?_, fun hz => ?_⟩)
    · rcases List.mem_cons.1 ((h z).1 (by simp [hz])) with e | e
      · have := ha1 z hz; omega
      · exact e
    · rcases List.mem_cons.1 ((h z).2 (by simp [hz])) with e | e
      · have := hb1 z hz; omega
      · exact e
theorem fin_rises (xs : List Int) : (fin xs).Pairwise (· < ·) := cpt_rises _ (srt_sorted xs)
theorem fin_mem (xs : List Int) (x : Int) : x ∈ fin xs ↔ x ∈ xs := by
  unfold fin
  rw [cpt_mem, srt_mem]
theorem fin_same (xs ys : List Int) (h : ∀ x, x ∈ xs ↔ x ∈ ys) : fin xs = fin ys :=
  rise_same _ _ (fin_rises xs) (fin_rises ys) (fun x => by rw [fin_mem, fin_mem]; exact h x)
/-- the edges from behind, each twice -/
def backL (l : List (Nat × Nat)) : List (Nat × Nat) := l.reverse.flatMap fun e => [e, e]
theorem backL_mem (l : List (Nat × Nat)) (e : Nat × Nat) : e ∈ backL l ↔ e ∈ l := by
  unfold backL
  simp
theorem grp_mem (l : List (Nat × Nat)) (v : Nat) (x : Int) : x ∈ grp l v ↔ ∃ e ∈ l, e.1 = v ∧ (e.2 : Int) = x := by
  unfold grp
  simp only [List.mem_map, List.mem_filter, beq_iff_eq]
  constructor
  · rintro ⟨e, ⟨h1, h2⟩, h3⟩; exact ⟨e, h1, h2, h3⟩
  · rintro ⟨e, h1, h2, h3⟩; exact ⟨e, ⟨h1, h2⟩, h3⟩
theorem fin_back (l : List (Nat × Nat)) (v : Nat) : fin (grp (backL l) v) = fin (grp l v) :=
  fin_same _ _ (fun x => by
    rw [grp_mem, grp_mem]
    constructor
    · rintro ⟨e, h, g⟩; exact ⟨e, (backL_mem l e).1 h, g⟩
    · rintro ⟨e, h, g⟩; exact ⟨e, (backL_mem l e).2 h, g⟩)
end Go.Proofs.Ythaicpbdlhkkkaa.edg
