/- blockdev: the plain law of a device: what is safe, what is written, what a block has. No program in sight. -/
import Derived.Test.YtbgbomlmgkgkoaaGreatOwn
namespace Go.Proofs.YtbgbomlmgkgkoaaGreat.dv

/-! ### a device, as plain data -/
structure Dev where
  nb : Nat
  ns : Nat
  safe : Int → Option ByteArray
  cache : List (Int × ByteArray)
  down : Bool
  calls : Nat
  reads : Nat
def zerosB (n : Nat) : ByteArray := ⟨(List.replicate n 0).toArray⟩
def Dev.size (d : Dev) : Nat := 512 * d.ns
def Dev.kept (d : Dev) (n : Int) : ByteArray := (d.safe n).getD (zerosB d.size)
/-- the last write of a block -/
def lastW (n : Int) : List (Int × ByteArray) → Option ByteArray
  | [] => none
  | p :: l => match lastW n l with
    | some t => some t
    | none => if p.1 = n then some p.2 else none
theorem lastW_snoc (n : Int) (p : Int × ByteArray) : ∀ l, lastW n (l ++ [p]) = if p.1 = n then some p.2 else lastW n l
  | [] => by simp [lastW]
  | q :: l => by
    show (match lastW n (l ++ [p]) with | some t => some t | none => if q.1 = n then some q.2 else none) = _
    rw [lastW_snoc n p l]
    by_cases h : p.1 = n
    · rw [if_pos h, if_pos h]
    · rw [if_neg h, if_neg h]; rfl
def Dev.now (d : Dev) (n : Int) : ByteArray := (lastW n d.cache).getD (d.kept n)
def Dev.write (d : Dev) (n : Int) (t : ByteArray) : Dev := { d with cache := d.cache ++ [(n, t)], calls := d.calls + 1 }
def Dev.flush (d : Dev) : Dev := { d with safe := fun k => match lastW k d.cache with | some t => some t | none => d.safe k, cache := [], calls := d.calls + 1 }
theorem Dev.now_write (d : Dev) (n : Int) (t : ByteArray) (k : Int) : (d.write n t).now k = if n = k then t else d.now k := by
  unfold Dev.now Dev.write
  rw [lastW_snoc]
  by_cases h : n = k
  · rw [if_pos h, if_pos h]; rfl
  · rw [if_neg h, if_neg h]; rfl
theorem Dev.now_flush (d : Dev) (k : Int) : d.flush.now k = d.now k := by
  unfold Dev.now Dev.flush Dev.kept
  show ((match lastW k d.cache with | some t => some t | none => d.safe k) : Option ByteArray).getD _ = _
  rcases lastW k d.cache with _ | t <;> rfl

/-- every text of a device has a block's size -/
structure Dev.Ok (d : Dev) : Prop where
  blocks : 16 ≤ d.nb ∧ d.nb ≤ 4096
  sectors : 1 ≤ d.ns ∧ d.ns ≤ 8
  safe : ∀ k t, d.safe k = some t → t.size = d.size
  cache : ∀ p ∈ d.cache, p.2.size = d.size ∧ 0 ≤ p.1 ∧ p.1 < d.nb
theorem lastW_mem {n : Int} {t : ByteArray} : ∀ {l : List (Int × ByteArray)}, lastW n l = some t → ∃ p ∈ l, p.1 = n ∧ p.2 = t
  | [], h => by cases h
  | p :: l, h => by
    have h : (match lastW n l with | some t => some t | none => if p.1 = n then some p.2 else none) = some t := h
    rcases hl : lastW n l with _ | u
    · rw [hl] at h
      have h : (if p.1 = n then some p.2 else none) = some t := h
      by_cases hp : p.1 = n
      · rw [if_pos hp] at h; exact ⟨p, List.mem_cons_self, hp, Option.some.inj h⟩
      · rw [if_neg hp] at h; cases h
    · rw [hl] at h
      have h : some u = some t := h
      obtain ⟨q, hq, h1, h2⟩ := lastW_mem hl
      exact ⟨q, List.mem_cons_of_mem _ hq, h1, h2.trans (Option.some.inj h)⟩
theorem zerosB_size (n : Nat) : (zerosB n).size = n := by simp [zerosB, ByteArray.size]
theorem Dev.Ok.kept {d : Dev} (h : d.Ok) (n : Int) : (d.kept n).size = d.size := by
  unfold Dev.kept
  rcases hs : d.safe n with _ | t
  · exact zerosB_size _
  · exact h.safe n t hs
theorem Dev.Ok.now {d : Dev} (h : d.Ok) (n : Int) : (d.now n).size = d.size := by
  unfold Dev.now
  rcases hs : lastW n d.cache with _ | t
  · exact h.kept n
  · obtain ⟨p, hp, _, e⟩ := lastW_mem hs
    exact e ▸ (h.cache p hp).1
theorem Dev.Ok.write {d : Dev} (h : d.Ok) {n : Int} {t : ByteArray} (h0 : 0 ≤ n) (h1 : n < d.nb) (ht : t.size = d.size) : (d.write n t).Ok :=
  ⟨h.blocks, h.sectors, h.safe, fun p hp => by
    rcases List.mem_append.1 hp with hp | hp
    · exact h.cache p hp
    · rw [List.mem_singleton] at hp; subst hp; exact ⟨ht, h0, h1⟩⟩
theorem Dev.Ok.flush {d : Dev} (h : d.Ok) : d.flush.Ok :=
  ⟨h.blocks, h.sectors, fun k t hk => by
    have hk : (match lastW k d.cache with | some t => some t | none => d.safe k) = some t := hk
    rcases hs : lastW k d.cache with _ | u
    · rw [hs] at hk; exact h.safe k t hk
    · rw [hs] at hk
      obtain ⟨p, hp, _, e⟩ := lastW_mem hs
      have : u = t := Option.some.inj hk
      subst this
      exact e ▸ (h.cache p hp).1, fun p hp => by cases hp⟩

def updP {α : Type} (f : Int → Option α) (k : Int) (v : Option α) : Int → Option α := fun x => if x = k then v else f x
theorem updP_same {α : Type} (f : Int → Option α) (k : Int) (v : Option α) : updP f k v k = v := if_pos rfl
theorem updP_other {α : Type} (f : Int → Option α) {k x : Int} (v : Option α) (h : x ≠ k) : updP f k v x = f x := if_neg h

end Go.Proofs.YtbgbomlmgkgkoaaGreat.dv
