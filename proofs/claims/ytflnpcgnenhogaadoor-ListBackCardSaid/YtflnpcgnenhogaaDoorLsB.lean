/- A vertex's successors as numbers, in plain Lean: runs, rows, what is left; the bits of them. No program in sight. -/
import Derived.Test.YtflnpcgnenhogaaDoorLsA
namespace Go.Proofs.YtflnpcgnenhogaaDoor.ls
open Go.Proofs.YtflnpcgnenhogaaDoor.bit

/-- numbers that rise, below 65536 -/
def Ris (l : List Nat) : Prop := l.Pairwise (· < ·) ∧ ∀ v ∈ l, v < 65536
structure Pr where
  win : Nat
  itv : Nat
  zet : Nat
def Pr.ok (p : Pr) : Prop := p.win ≤ 16 ∧ (p.itv = 0 ∨ 2 ≤ p.itv ∧ p.itv ≤ 64) ∧ 1 ≤ p.zet ∧ p.zet ≤ 16
def zig (z : Int) : Nat := if 0 ≤ z then (2 * z).toNat else (2 * (-(z + 1)) + 1).toNat
def zag (u : Nat) : Int := if u % 2 = 0 then ((u / 2 : Nat) : Int) else -((u / 2 : Nat) : Int) - 1
theorem zag_zig (z : Int) : zag (zig z) = z := by
  unfold zag zig
  split
  · split <;> omega
  · split <;> omega

/-- runs so far (all but the last, the last): one number more, copied or not -/
def rst (q : List Nat × Nat) (own : Bool) : List Nat × Nat := if own != ((q.1.length + 1) % 2 == 1) then (q.1 ++ [q.2], 1) else (q.1, q.2 + 1)
def isIn (l : List Nat) (v : Nat) : Bool := decide (v ∈ l)
def runs (succ ref : List Nat) : List Nat × Nat := ref.foldl (fun q v => rst q (isIn succ v)) ([], 0)
def leftOf (succ ref : List Nat) : List Nat := succ.filter fun v => !(isIn ref v)
/-- how many of a list continue a -/
def cons1 : Nat → List Nat → Nat
  | _, [] => 0
  | a, b :: r => if b = a + 1 then cons1 b r + 1 else 0
theorem cons1_le : ∀ (a : Nat) (r : List Nat), cons1 a r ≤ r.length
  | _, [] => Nat.le_refl _
  | a, b :: r => by
    rw [cons1]
    split
    · have := cons1_le b r; simp; omega
    · simp
/-- the long rows among numbers, and what is left -/
def rws (least : Nat) : List Nat → List (Nat × Nat) × List Nat
  | [] => ([], [])
  | a :: r =>
    if 0 < least ∧ least ≤ cons1 a r + 1 then ((a, cons1 a r + 1) :: (rws least (r.drop (cons1 a r))).1, (rws least (r.drop (cons1 a r))).2)
    else ((rws least (r.drop (cons1 a r))).1, a :: r.take (cons1 a r) ++ (rws least (r.drop (cons1 a r))).2)
termination_by l => l.length
decreasing_by all_goals simp only [List.length_drop, List.length_cons]; omega
/-- the numbers of runs -/
def rnm : Nat → List Nat → List Nat
  | _, [] => []
  | i, n :: r => (n - min i 1) :: rnm (i + 1) r
/-- the numbers of rows, behind an end -/
def lnm (x itv : Nat) : Option Nat → List (Nat × Nat) → List Nat
  | _, [] => []
  | none, (f, n) :: r => zig ((f : Int) - x) :: (n - itv) :: lnm x itv (some (f + n - 1)) r
  | some e, (f, n) :: r => (f - e - 2) :: (n - itv) :: lnm x itv (some (f + n - 1)) r
/-- the numbers of what is left -/
def znm (x : Nat) : Option Nat → List Nat → List Nat
  | _, [] => []
  | none, v :: r => zig ((v : Int) - x) :: znm x (some v) r
  | some u, v :: r => (v - u - 1) :: znm x (some v) r
/-- all numbers of a list ahead, and behind its head -/
def hdN (succ : List Nat) (r : Nat) (p : Pr) : List (Cd × Nat) :=
  (.gam, succ.length) :: (if succ = [] then [] else if 0 < p.win then [(.una, r)] else [])
def runN (succ ref : List Nat) (r : Nat) : List (Cd × Nat) :=
  if 0 < r then (.gam, (runs succ ref).1.length) :: (rnm 0 (runs succ ref).1).map (fun v => (Cd.gam, v)) else []
def restN (x : Nat) (left : List Nat) (p : Pr) : List (Cd × Nat) :=
  if left = [] then [] else
    (if 0 < p.itv then [(Cd.gam, (rws p.itv left).1.length)] else []) ++ (lnm x p.itv none (rws p.itv left).1).map (fun v => (Cd.gam, v)) ++ (znm x none (rws p.itv left).2).map (fun v => (Cd.zet p.zet, v))
def tlN (x : Nat) (succ ref : List Nat) (r : Nat) (p : Pr) : List (Cd × Nat) :=
  if succ = [] then [] else runN succ ref r ++ restN x (leftOf succ ref) p
def nums (x : Nat) (succ ref : List Nat) (r : Nat) (p : Pr) : List (Cd × Nat) := hdN succ r p ++ tlN x succ ref r p
def bitsOf (l : List (Cd × Nat)) : Bits := l.flatMap fun q => cb q.1 q.2
theorem bitsOf_append (a b : List (Cd × Nat)) : bitsOf (a ++ b) = bitsOf a ++ bitsOf b := List.flatMap_append ..
theorem bitsOf_nil : bitsOf [] = [] := rfl
theorem bitsOf_cons (c : Cd) (v : Nat) (b : List (Cd × Nat)) : bitsOf ((c, v) :: b) = cb c v ++ bitsOf b := rfl
def lay (x : Nat) (succ ref : List Nat) (r : Nat) (p : Pr) : Bits := bitsOf (nums x succ ref r p)

/-! ### what runs are -/
def sum (l : List Nat) : Nat := l.foldr (· + ·) 0
theorem sum_append (a b : List Nat) : sum (a ++ b) = sum a + sum b := by
  induction a with
  | nil => simp [sum]
  | cons x a ih =>
    show x + sum (a ++ b) = x + sum a + sum b
    rw [ih]; omega
/-- what runs copy of a list -/
def exp : Nat → List Nat → List Nat → List Nat
  | _, [], _ => []
  | i, n :: R, ref => (if i % 2 = 0 then ref.take n else []) ++ exp (i + 1) R (ref.drop n)
theorem exp_snoc : ∀ (i : Nat) (I : List Nat) (n : Nat) (ref : List Nat), exp i (I ++ [n]) ref = exp i I ref ++ (if (i + I.length) % 2 = 0 then (ref.drop (sum I)).take n else [])
  | i, [], n, ref => by simp [exp, sum]
  | i, m :: I, n, ref => by
    show (if i % 2 = 0 then ref.take m else []) ++ exp (i + 1) (I ++ [n]) (ref.drop m) = _
    rw [exp_snoc (i + 1) I n (ref.drop m), List.drop_drop, ← List.append_assoc]
    have e : i + 1 + I.length = i + (m :: I).length := by simp; omega
    rw [e]
    rfl
theorem exp_more : ∀ (i : Nat) (I ref w : List Nat), sum I ≤ ref.length → exp i I (ref ++ w) = exp i I ref
  | _, [], _, _, _ => rfl
  | i, m :: I, ref, w, h => by
    have h' : m + sum I ≤ ref.length := h
    rw [exp, exp, List.take_append_of_le_length (by omega), List.drop_append_of_le_length (by omega), exp_more (i + 1) I (ref.drop m) w (by rw [List.length_drop]; omega)]
/-- runs of a list: what they come to, and what they copy -/
structure RunsOk (f : Nat → Bool) (ref : List Nat) (q : List Nat × Nat) : Prop where
  all : sum q.1 + q.2 = ref.length
  cop : exp 0 (q.1 ++ [q.2]) ref = ref.filter f
  pos : ∀ i (h : i < q.1.length), 0 < i → 0 < q.1[i]
  last : 0 < q.1.length → 0 < q.2
theorem RunsOk.step {f : Nat → Bool} {ref : List Nat} {q : List Nat × Nat} (h : RunsOk f ref q) (v : Nat) : RunsOk f (ref ++ [v]) (rst q (f v)) := by
  obtain ⟨I, n⟩ := q
  have hall : sum I + n = ref.length := h.all
  have hpos := h.pos
  have hlast : 0 < I.length → 0 < n := h.last
  have hcop := h.cop
  simp only at hcop hpos
  rw [exp_snoc, Nat.zero_add] at hcop
  have hd : (ref.drop (sum I)).length = n := by rw [List.length_drop]; omega
  rw [List.take_of_length_le (by omega)] at hcop
  by_cases hs : (f v != ((I.length + 1) % 2 == 1)) = true
  · have e : rst (I, n) (f v) = (I ++ [n], 1) := by unfold rst; rw [if_pos hs]
    rw [e]
    refine ⟨?_, ?_, ?_, fun _ => Nat.one_pos⟩
    · show sum (I ++ [n]) + 1 = _
      rw [sum_append, List.length_append, List.length_singleton]
      show sum I + (n + 0) + 1 = _
      omega
    · show exp 0 (I ++ [n] ++ [1]) (ref ++ [v]) = _
      have s2 : sum (I ++ [n]) = ref.length := by rw [sum_append]; show sum I + (n + 0) = _; omega
      rw [exp_snoc, exp_more _ _ _ _ (by omega), exp_snoc, List.take_of_length_le (by omega), Nat.zero_add, Nat.zero_add, hcop, s2, List.filter_append, List.drop_left]
      congr 1
      rw [List.length_append, List.length_singleton]
      cases hf : f v
      · rw [hf] at hs
        have : (I.length + 1) % 2 = 1 := by simpa using hs
        rw [if_neg (by omega)]
        simp [hf]
      · rw [hf] at hs
        have : (I.length + 1) % 2 ≠ 1 := by simpa using hs
        rw [if_pos (by omega)]
        simp [hf]
    · intro i hi h0
      show 0 < (I ++ [n])[i]
      rw [List.getElem_append]
      split
      · exact hpos i (by assumption) h0
      · rename_i hge
        simp only [List.length_append, List.length_singleton] at hi
        simp only [List.getElem_singleton]
        exact hlast (by omega)
  · have e : rst (I, n) (f v) = (I, n + 1) := by unfold rst; rw [if_neg hs]
    rw [e]
    refine ⟨?_, ?_, hpos, fun _ => Nat.succ_pos _⟩
    · show sum I + (n + 1) = _
      rw [List.length_append, List.length_singleton]
      omega
    · show exp 0 (I ++ [n + 1]) (ref ++ [v]) = _
      rw [exp_snoc, exp_more _ _ _ _ (by omega), List.filter_append, ← hcop, Nat.zero_add, List.append_assoc]
      congr 1
      rw [List.drop_append_of_le_length (by omega), List.take_of_length_le (by rw [List.length_append, hd]; simp)]
      have hs' : (f v != ((I.length + 1) % 2 == 1)) = false := by simpa using hs
      cases hf : f v
      · rw [hf] at hs'
        have : ¬ (I.length + 1) % 2 = 1 := by simpa using hs'
        rw [if_neg (by omega), if_neg (by omega)]
        simp [hf]
      · rw [hf] at hs'
        have : (I.length + 1) % 2 = 1 := by simpa using hs'
        rw [if_pos (by omega), if_pos (by omega)]
        simp [hf]
theorem runs_fold (f : Nat → Bool) : ∀ (l ref : List Nat) (q : List Nat × Nat), RunsOk f ref q → RunsOk f (ref ++ l) (l.foldl (fun q v => rst q (f v)) q)
  | [], ref, q, h => by rw [List.append_nil]; exact h
  | v :: l, ref, q, h => by
    have := runs_fold f l (ref ++ [v]) _ (h.step v)
    rw [List.append_assoc] at this
    exact this
theorem runs_ok (succ ref : List Nat) : RunsOk (isIn succ) ref (runs succ ref) := by
  have := runs_fold (isIn succ) ref [] ([], 0) ⟨rfl, rfl, fun i h => by simp at h, fun h => by simp at h⟩
  exact this
theorem sum_len : ∀ (l : List Nat) (k : Nat), (∀ i (h : i < l.length), k ≤ i → 0 < l[i]) → l.length ≤ sum l + k
  | [], k, _ => by simp
  | n :: l, 0, h => by
    have h0 := h 0 (by simp) (Nat.le_refl _)
    have := sum_len l 0 (fun i hi _ => by have := h (i + 1) (by simpa using hi) (Nat.zero_le _); simpa using this)
    simp only [List.getElem_cons_zero] at h0
    show l.length + 1 ≤ n + sum l + 0
    omega
  | n :: l, k + 1, h => by
    have := sum_len l k (fun i hi hk => by have := h (i + 1) (by simpa using hi) (by omega); simpa using this)
    show l.length + 1 ≤ n + sum l + (k + 1)
    omega
theorem RunsOk.len {f : Nat → Bool} {ref : List Nat} {q : List Nat × Nat} (h : RunsOk f ref q) : q.1.length ≤ ref.length := by
  have h1 := sum_len q.1 1 (fun i hi h1 => h.pos i hi (by omega))
  have h2 := h.all
  rcases Nat.eq_zero_or_pos q.1.length with h3 | h3
  · omega
  · have := h.last h3; omega

/-! ### what rows are -/
def row (q : Nat × Nat) : List Nat := List.range' q.1 q.2
theorem cons1_spec : ∀ (a : Nat) (r : List Nat), r.take (cons1 a r) = List.range' (a + 1) (cons1 a r) ∧ ∀ (h : cons1 a r < r.length), r[cons1 a r] ≠ a + 1 + cons1 a r
  | a, [] => ⟨rfl, fun h => by simp [cons1] at h⟩
  | a, b :: r => by
    rw [cons1]
    by_cases hb : b = a + 1
    · subst hb
      simp only [if_true]
      obtain ⟨h1, h2⟩ := cons1_spec (a + 1) r
      refine ⟨by rw [List.take_succ_cons, h1]; rfl, fun h => ?_⟩
      have := h2 (by simpa using h)
      rw [List.getElem_cons_succ]
      omega
    · simp only [if_neg hb]
      refine ⟨rfl, fun _ => ?_⟩
      rw [List.getElem_cons_zero]
      omega
/-- rows that lie apart, behind an end, each so long at least -/
def Apart (least : Nat) : Option Nat → List (Nat × Nat) → Prop
  | _, [] => True
  | none, (f, n) :: r => least ≤ n ∧ 0 < n ∧ f + n ≤ 65536 ∧ Apart least (some (f + n - 1)) r
  | some e, (f, n) :: r => e + 2 ≤ f ∧ least ≤ n ∧ 0 < n ∧ f + n ≤ 65536 ∧ Apart least (some (f + n - 1)) r
theorem Apart.weak {least : Nat} {e : Option Nat} {l : List (Nat × Nat)} (h : Apart least e l) (e' : Nat) (he : ∀ e'', e = some e'' → e' ≤ e'') (hh : e = none → ∀ q ∈ l, e' + 2 ≤ q.1) : Apart least (some e') l := by
  cases l with
  | nil => exact trivial
  | cons q l =>
    obtain ⟨f, n⟩ := q
    cases e with
    | none =>
      obtain ⟨h1, h2, h3, h4⟩ := h
      exact ⟨hh rfl _ (List.mem_cons_self ..), h1, h2, h3, h4⟩
    | some e'' =>
      obtain ⟨h0, h1, h2, h3, h4⟩ := h
      have := he _ rfl
      exact ⟨by omega, h1, h2, h3, h4⟩
theorem rws_nil (least : Nat) : rws least [] = ([], []) := by rw [rws]
theorem rws_cons (least a : Nat) (r : List Nat) : rws least (a :: r) = if 0 < least ∧ least ≤ cons1 a r + 1 then ((a, cons1 a r + 1) :: (rws least (r.drop (cons1 a r))).1, (rws least (r.drop (cons1 a r))).2)
    else ((rws least (r.drop (cons1 a r))).1, a :: r.take (cons1 a r) ++ (rws least (r.drop (cons1 a r))).2) := by rw [rws]
theorem head_row (a : Nat) (r : List Nat) : a :: r.take (cons1 a r) = row (a, cons1 a r + 1) := by
  rw [(cons1_spec a r).1]
  rfl
structure RwsOk (least : Nat) (l : List Nat) (q : List (Nat × Nat) × List Nat) : Prop where
  perm : List.Perm (q.1.flatMap row ++ q.2) l
  sub : List.Sublist q.2 l
  apart : Apart least none q.1
  from_ : ∀ t ∈ q.1, t.1 ∈ l
theorem rws_ok (least : Nat) (l : List Nat) (hl : Ris l) : RwsOk least l (rws least l) := by
  induction hn : l.length using Nat.strongRecOn generalizing l with
  | ind m ih =>
    cases l with
    | nil => rw [rws_nil]; exact ⟨by simp, by simp, trivial, fun t ht => by cases ht⟩
    | cons a r =>
      rw [rws_cons]
      obtain ⟨k, hk⟩ : ∃ k, cons1 a r = k := ⟨_, rfl⟩
      have hr := head_row a r
      have hspec := (cons1_spec a r).2
      rw [hk] at hr hspec ⊢
      have hkl : k ≤ r.length := by rw [← hk]; exact cons1_le a r
      have hsub : List.Sublist (r.drop k) (a :: r) := (List.drop_sublist k r).trans (List.sublist_cons_self a r)
      have hl2 : Ris (r.drop k) := ⟨hl.1.sublist hsub, fun v hv => hl.2 v (hsub.subset hv)⟩
      have IH := ih (r.drop k).length (by rw [List.length_drop]; simp at hn; omega) (r.drop k) hl2 rfl
      obtain ⟨q, hq⟩ : ∃ q, rws least (r.drop k) = q := ⟨_, rfl⟩
      rw [hq] at IH ⊢
      have hsplit : a :: r = row (a, k + 1) ++ r.drop k := by rw [← hr, List.cons_append, List.take_append_drop]
      have hend : a + k < 65536 := by
        have h1 : a + k ∈ row (a, k + 1) := by show _ ∈ List.range' a (k + 1); rw [List.mem_range'_1]; omega
        exact hl.2 _ (by rw [hsplit]; exact List.mem_append_left _ h1)
      have hgap : ∀ v ∈ r.drop k, a + k + 2 ≤ v := by
        have hp := hl.1
        rw [hsplit] at hp
        have hlt := (List.pairwise_append.1 hp).2.2 (a + k) (by show _ ∈ List.range' a (k + 1); rw [List.mem_range'_1]; omega)
        have hp2 := (List.pairwise_append.1 hp).2.1
        intro v hv
        by_cases hkr : k < r.length
        · have h2 := hspec hkr
          rw [List.drop_eq_getElem_cons hkr] at hv hlt hp2
          have h4 := hlt _ (List.mem_cons_self ..)
          rcases List.mem_cons.1 hv with rfl | hv
          · omega
          · have := (List.pairwise_cons.1 hp2).1 v hv
            omega
        · rw [List.drop_eq_nil_of_le (by omega)] at hv
          cases hv
      by_cases hc : 0 < least ∧ least ≤ k + 1
      · rw [if_pos hc]
        refine ⟨?_, IH.sub.trans hsub, ?_, fun t ht => ?_⟩
        · rw [hsplit]
          show List.Perm (row (a, k + 1) ++ q.1.flatMap row ++ q.2) _
          rw [List.append_assoc]
          exact IH.perm.append_left _
        · show least ≤ k + 1 ∧ 0 < k + 1 ∧ a + (k + 1) ≤ 65536 ∧ Apart least (some (a + (k + 1) - 1)) q.1
          refine ⟨hc.2, by omega, by omega, IH.apart.weak _ (fun _ h => by cases h) (fun _ t ht => ?_)⟩
          have := hgap _ (IH.from_ t ht)
          omega
        · rcases List.mem_cons.1 ht with rfl | ht
          · exact List.mem_cons_self ..
          · exact hsub.subset (IH.from_ t ht)
      · rw [if_neg hc]
        refine ⟨?_, ?_, IH.apart, fun t ht => hsub.subset (IH.from_ t ht)⟩
        · rw [hsplit]
          show List.Perm (q.1.flatMap row ++ (a :: r.take k ++ q.2)) _
          rw [hr, ← List.append_assoc]
          refine (List.perm_append_comm.append_right _).trans ?_
          rw [List.append_assoc]
          exact IH.perm.append_left _
        · show List.Sublist (a :: r.take k ++ q.2) (a :: r)
          rw [hsplit, hr]
          exact (List.Sublist.refl _).append IH.sub
theorem rws_zero (l : List Nat) : rws 0 l = ([], l) := by
  induction hn : l.length using Nat.strongRecOn generalizing l with
  | ind m ih =>
    cases l with
    | nil => exact rws_nil 0
    | cons a r =>
      rw [rws_cons, if_neg (by omega), ih (r.drop (cons1 a r)).length (by rw [List.length_drop]; simp at hn; omega) _ rfl]
      simp
end Go.Proofs.YtflnpcgnenhogaaDoor.ls
