/- Pure definitions and laws for edge lists (no program in sight): lines of a text, the number of a word, the edge of a line, what a scan of lines gives. -/
import Init
namespace Go.Proofs.Ythaicpbdlhkkkaa.edg

abbrev B := List UInt8

def cutAt (c : UInt8) : B → B × B × Bool
  | [] => ([], [], false)
  | x :: r => if x = c then ([], r, true) else (x :: (cutAt c r).1, (cutAt c r).2.1, (cutAt c r).2.2)

def linesGo (cur : B) : B → List B
  | [] => if cur = [] then [] else [cur]
  | x :: r => if x = 10 then cur :: linesGo [] r else linesGo (cur ++ [x]) r

def lines (s : B) : List B := linesGo [] s

theorem linesGo_cut (cur : B) (s : B) (h : cur ≠ [] ∨ s ≠ []) : linesGo cur s = (cur ++ (cutAt 10 s).1) :: linesGo [] (cutAt 10 s).2.1 := by
  induction s generalizing cur with
  | nil => 
    have hc : cur ≠ [] := by rcases h with h | h <;> simp_all
    simp [linesGo, cutAt, hc]
  | cons x r ih =>
    by_cases hx : x = 10
    · subst hx; simp [linesGo, cutAt]
    · simp only [linesGo, cutAt, if_neg hx]
      rw [ih (cur ++ [x]) (by simp)]
      simp

theorem lines_cut (s : B) (h : s ≠ []) : lines s = (cutAt 10 s).1 :: lines (cutAt 10 s).2.1 := by
  simpa [lines] using linesGo_cut [] s (.inr h)

theorem lines_nil : lines [] = [] := rfl

theorem cutAt_len (c : UInt8) (s : B) (h : s ≠ []) : (cutAt c s).1.length + (cutAt c s).2.1.length ≤ s.length ∧ (cutAt c s).2.1.length < s.length := by
  induction s with
  | nil => exact absurd rfl h
  | cons x r ih =>
    by_cases hx : x = c
    · simp [cutAt, hx]
    · by_cases hr : r = []
      · subst hr; simp [cutAt, hx]
      · have := ih hr
        simp only [cutAt, if_neg hx, List.length_cons]
        omega

/-- what a word's digits say -/
def digs : Nat → B → Option Nat
  | n, [] => some n
  | n, c :: r => if c.toNat < 48 ∨ 57 < c.toNat then none else digs (10 * n + (c.toNat - 48)) r

def number (s : B) : Option Nat :=
  if s.length < 1 ∨ 5 < s.length ∨ (1 < s.length ∧ s.head? = some 48) then none else digs 0 s

def edgeOf (n : Int) (line : B) : Option (Nat × Nat) :=
  if (cutAt 32 line).2.2 = false then none else
    match number (cutAt 32 line).1, number (cutAt 32 line).2.1 with
    | some x, some y => if (x : Int) < n ∧ (y : Int) < n then some (x, y) else none
    | _, _ => none

def silent (l : B) : Bool := l.isEmpty || l.head? == some 35

def scan (n : Int) : List B → Nat → List ((Nat × Nat) × Nat) × Nat
  | [], _ => ([], 0)
  | l :: r, k =>
    if silent l then scan n r (k + 1) else
      match edgeOf n l with
      | none => ([], k + 1)
      | some e => ((e, k + 1) :: (scan n r (k + 1)).1, (scan n r (k + 1)).2)

/-! ### what the loops go by -/
theorem digs_snoc (v : Nat) (c : UInt8) (r : B) (h1 : 48 ≤ c.toNat) (h2 : c.toNat ≤ 57) : digs v (c :: r) = digs (10 * v + (c.toNat - 48)) r := by
  simp only [digs]; rw [if_neg (by omega)]
theorem digs_bad (v : Nat) (c : UInt8) (r : B) (h : c.toNat < 48 ∨ 57 < c.toNat) : digs v (c :: r) = none := by
  simp only [digs]; rw [if_pos h]

/-- the most that so many digits say -/
def top : Nat → Nat
  | 0 => 0
  | k + 1 => 10 * top k + 9
theorem top_le {k m : Nat} (h : k ≤ m) : top k ≤ top m := by
  induction m with
  | zero => simp_all
  | succ m ih =>
    rcases Nat.lt_or_ge m k with hk | hk
    · obtain rfl : k = m + 1 := by omega
      exact Nat.le_refl _
    · have := ih hk; simp only [top]; omega
theorem top5 {k : Nat} (h : k ≤ 5) : top k ≤ 99999 := Nat.le_trans (top_le h) (by decide)

theorem number_some_lt (s : B) (n : Nat) (h : number s = some n) : n ≤ 99999 := by
  have key : ∀ (r : B) (v k : Nat), v ≤ top k → digs v r = some n → n ≤ top (k + r.length) := by
    intro r
    induction r with
    | nil => intro v k hv h; simp [digs] at h; subst h; simpa using hv
    | cons c r ih =>
      intro v k hv h
      by_cases hc : c.toNat < 48 ∨ 57 < c.toNat
      · rw [digs_bad v c r hc] at h; cases h
      · rw [digs_snoc v c r (by omega) (by omega)] at h
        have := ih _ (k + 1) (by simp only [top]; omega) h
        simpa [Nat.add_assoc, Nat.add_comm 1] using this
  unfold number at h
  split at h
  · cases h
  · rename_i hn
    have := key s 0 0 (by simp [top]) h
    exact Nat.le_trans this (top5 (by omega))

/-- cutting at a place that is the first -/
theorem cutAt_step (c : UInt8) (a : B) (x : UInt8) (r : B) (hx : x ≠ c) (l : B) (h : cutAt c l = (a ++ (cutAt c (x :: r)).1, (cutAt c (x :: r)).2)) :
    cutAt c l = ((a ++ [x]) ++ (cutAt c r).1, (cutAt c r).2) := by
  rw [h]; simp [cutAt, hx]
theorem cutAt_hit (c : UInt8) (r : B) : cutAt c (c :: r) = ([], r, true) := by simp [cutAt]

end Go.Proofs.Ythaicpbdlhkkkaa.edg
