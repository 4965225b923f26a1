/- What bits say as a vertex's successors, in plain Lean; there and back. No program in sight. -/
import Derived.Test.YtflnpcgnenhogaaDoorLsB
namespace Go.Proofs.YtflnpcgnenhogaaDoor.ls
open Go.Proofs.YtflnpcgnenhogaaDoor.bit

/-- a number in a code, at most so great, from a place on -/
def tk (B : Bits) (c : Cd) (most a : Nat) : Option (Nat × Nat) := (rd c (B.drop a)).bind fun q => if q.1 ≤ most then some (q.1, a + q.2) else none
/-- runs that are taken: what they copy, what is left of the list, the place -/
def cpy (B : Bits) : Nat → Nat → List Nat → Nat → Option (List Nat × List Nat × Nat)
  | 0, _, ref, a => some ([], ref, a)
  | c + 1, i, ref, a => (tk B .gam ref.length a).bind fun q => if ref.length < q.1 + min i 1 then none else
      (cpy B c (i + 1) (ref.drop (q.1 + min i 1)) q.2).map fun t => ((if i % 2 = 0 then ref.take (q.1 + min i 1) else []) ++ t.1, t.2)
def copies (B : Bits) (ref : List Nat) (a : Nat) : Option (List Nat × Nat) :=
  (tk B .gam (ref.length + 1) a).bind fun q => (cpy B q.1 0 ref q.2).map fun t => (if q.1 % 2 = 0 then t.1 ++ t.2.1 else t.1, t.2.2)
/-- where a row begins -/
def rowFrom (x : Nat) : Option Nat → Nat → Int
  | none, v => zag v + x
  | some e, v => (v : Int) + ((e : Int) + 2)
def lng (B : Bits) (x most itv : Nat) : Nat → Option Nat → Nat → Nat → Option (List Nat × Nat)
  | 0, _, _, a => some ([], a)
  | c + 1, e, used, a => (tk B .gam 262144 a).bind fun q => (tk B .gam most q.2).bind fun q2 =>
      if rowFrom x e q.1 < 0 ∨ 65536 < rowFrom x e q.1 + ((q2.1 + itv : Nat) : Int) ∨ most < used + (q2.1 + itv) then none else
      (lng B x most itv c (some ((rowFrom x e q.1).toNat + (q2.1 + itv) - 1)) (used + (q2.1 + itv)) q2.2).map fun t => (row ((rowFrom x e q.1).toNat, q2.1 + itv) ++ t.1, t.2)
def longs (B : Bits) (x most itv a : Nat) : Option (List Nat × Nat) := (tk B .gam most a).bind fun q => lng B x most itv q.1 none 0 q.2
/-- what a residual is -/
def resAt (x : Nat) : Option Nat → Nat → Int
  | none, v => zag v + x
  | some u, v => (v : Int) + ((u : Int) + 1)
def rsd (B : Bits) (x zet : Nat) : Nat → Option Nat → Nat → Option (List Nat × Nat)
  | 0, _, a => some ([], a)
  | n + 1, e, a => (tk B (.zet zet) 262144 a).bind fun q => if resAt x e q.1 < 0 ∨ 65536 ≤ resAt x e q.1 then none else
      (rsd B x zet n (some (resAt x e q.1).toNat) q.2).map fun t => ((resAt x e q.1).toNat :: t.1, t.2)
/-- what is copied, what rows say, what is left; the place behind -/
def pars (B : Bits) (x deg : Nat) (ref : List Nat) (r : Nat) (p : Pr) (a : Nat) : Option (List Nat × List Nat × List Nat × Nat) :=
  (if 0 < r then copies B ref a else some ([], a)).bind fun c =>
  if deg < c.1.length then none else
  (if c.1.length < deg ∧ 0 < p.itv then longs B x (deg - c.1.length) p.itv c.2 else some ([], c.2)).bind fun l =>
  (rsd B x p.zet (deg - c.1.length - l.1.length) none l.2).map fun z => (c.1, l.1, z.1, z.2)
def srtN (l : List Nat) : List Nat := l.mergeSort fun a b => decide (a ≤ b)
/-- successors as bits tell them behind a head, and the place behind -/
def dec (B : Bits) (x n deg : Nat) (ref : List Nat) (r : Nat) (p : Pr) (a : Nat) : Option (List Nat × Nat) :=
  (pars B x deg ref r p a).bind fun t =>
    if (srtN (t.1 ++ t.2.1 ++ t.2.2.1)).Pairwise (· < ·) ∧ (t.1 ++ t.2.1 ++ t.2.2.1).length = deg ∧ (∀ v ∈ t.1 ++ t.2.1 ++ t.2.2.1, v < n) ∧ 
      bitsOf (tlN x (srtN (t.1 ++ t.2.1 ++ t.2.2.1)) ref r p) = (B.drop a).take (t.2.2.2 - a) then some (srtN (t.1 ++ t.2.1 ++ t.2.2.1), t.2.2.2) else none

theorem srtN_perm (l : List Nat) : List.Perm (srtN l) l := List.mergeSort_perm _ _
theorem srtN_le (l : List Nat) : (srtN l).Pairwise (· ≤ ·) := by
  have := List.pairwise_mergeSort (le := fun a b : Nat => decide (a ≤ b)) (fun a b c h1 h2 => by simp at *; omega) (fun a b => by simp; omega) l
  exact this.imp (fun h => by simpa using h)
/-- there is one list that rises and holds the same -/
theorem srtN_eq {l s : List Nat} (h : List.Perm s l) (hs : s.Pairwise (· < ·)) : srtN l = s :=
  List.Perm.eq_of_pairwise (le := (· ≤ ·)) (fun _ _ _ _ h1 h2 => Nat.le_antisymm h1 h2) (srtN_le l) (hs.imp (fun h => Nat.le_of_lt h)) ((srtN_perm l).trans h.symm)

theorem tk_bound {B : Bits} {c : Cd} (hc : c.ok) {most a v e : Nat} (h : tk B c most a = some (v, e)) (ha : a ≤ B.length) : v ≤ most ∧ v ≤ c.most ∧ a ≤ e ∧ e ≤ B.length := by
  unfold tk at h
  cases hr : rd c (B.drop a) with
  | none => rw [hr] at h; cases h
  | some q =>
    rw [hr] at h
    simp only [Option.bind_some] at h
    split at h
    · have h1 := Option.some.inj h
      injection h1 with h2 h3
      have h4 := rd_bound c hc (v := q.1) (n := q.2) hr
      rw [List.length_drop] at h4
      omega
    · cases h
/-- a number that stands there is taken -/
theorem tk_cb {B R : Bits} {c : Cd} (hc : c.ok) {most a v : Nat} (hv : v ≤ most) (hm : v ≤ c.most) (h : B.drop a = cb c v ++ R) : tk B c most a = some (v, a + (cb c v).length) ∧ B.drop (a + (cb c v).length) = R := by
  constructor
  · unfold tk
    rw [h, rd_cb c hc v hm R, Option.bind_some, if_pos hv]
  · rw [← List.drop_drop, h, List.drop_left]
theorem isIn_mem {l : List Nat} {v : Nat} : isIn l v = true ↔ v ∈ l := by unfold isIn; simp

theorem cpy_back (B R : Bits) : ∀ (I : List Nat) (i : Nat) (ref : List Nat) (a : Nat), (∀ j (h : j < I.length), 0 < i + j → 0 < I[j]) → sum I ≤ ref.length → ref.length ≤ 65536 → B.drop a = bitsOf ((rnm i I).map fun v => (Cd.gam, v)) ++ R →
    cpy B I.length i ref a = some (exp i I ref, ref.drop (sum I), a + (bitsOf ((rnm i I).map fun v => (Cd.gam, v))).length) ∧ B.drop (a + (bitsOf ((rnm i I).map fun v => (Cd.gam, v))).length) = R
  | [], i, ref, a, _, _, _, h => by
    have e : bitsOf ((rnm i []).map fun v => (Cd.gam, v)) = [] := rfl
    rw [e] at h ⊢
    exact ⟨by simp [cpy, exp, sum], by simpa using h⟩
  | n :: I, i, ref, a, hp, hs, hz, h => by
    have hs' : n + sum I ≤ ref.length := hs
    have e : bitsOf ((rnm i (n :: I)).map fun v => (Cd.gam, v)) = cb .gam (n - min i 1) ++ bitsOf ((rnm (i + 1) I).map fun v => (Cd.gam, v)) := rfl
    rw [e] at h ⊢
    rw [List.append_assoc] at h
    have hn : n - min i 1 + min i 1 = n := by
      rcases Nat.eq_zero_or_pos i with h0 | h0
      · omega
      · have := hp 0 (by simp) (by omega)
        simp only [List.getElem_cons_zero] at this
        omega
    obtain ⟨t1, t2⟩ := tk_cb (B := B) (c := .gam) (most := ref.length) (a := a) (v := n - min i 1) trivial (by omega) (by show _ ≤ 281474976710654; omega) h
    obtain ⟨c1, c2⟩ := cpy_back B R I (i + 1) (ref.drop n) _ (fun j hj h0 => by have := hp (j + 1) (by simpa using hj) (by omega); simpa using this) (by rw [List.length_drop]; omega) (by rw [List.length_drop]; omega) t2
    rw [List.length_append, ← Nat.add_assoc]
    refine ⟨?_, c2⟩
    show (tk B .gam ref.length a).bind _ = _
    rw [t1, Option.bind_some]
    show (if ref.length < n - min i 1 + min i 1 then none else (cpy B I.length (i + 1) (ref.drop (n - min i 1 + min i 1)) _).map _) = _
    rw [hn, if_neg (by omega), c1, Option.map_some]
    show some (_, List.drop (sum I) (List.drop n ref), _) = some (_, List.drop (n + sum I) ref, _)
    rw [List.drop_drop]
    rfl
theorem copies_back (B R : Bits) (succ ref : List Nat) (a : Nat) (hz : ref.length ≤ 65536) (h : B.drop a = bitsOf ((.gam, (runs succ ref).1.length) :: (rnm 0 (runs succ ref).1).map fun v => (Cd.gam, v)) ++ R) :
    copies B ref a = some (ref.filter (isIn succ), a + (bitsOf ((.gam, (runs succ ref).1.length) :: (rnm 0 (runs succ ref).1).map fun v => (Cd.gam, v))).length) ∧ B.drop (a + (bitsOf ((.gam, (runs succ ref).1.length) :: (rnm 0 (runs succ ref).1).map fun v => (Cd.gam, v))).length) = R := by
  have hk := runs_ok succ ref
  obtain ⟨q, hq⟩ : ∃ q, runs succ ref = q := ⟨_, rfl⟩
  rw [hq] at h hk ⊢
  obtain ⟨I, n⟩ := q
  have hlen : I.length ≤ ref.length := hk.len
  have hall : sum I + n = ref.length := hk.all
  have hcop : exp 0 (I ++ [n]) ref = ref.filter (isIn succ) := hk.cop
  simp only [bitsOf_cons] at h ⊢
  rw [List.append_assoc] at h
  obtain ⟨t1, t2⟩ := tk_cb (B := B) (c := .gam) (most := ref.length + 1) (a := a) (v := I.length) trivial (by omega) (by show _ ≤ 281474976710654; omega) h
  obtain ⟨c1, c2⟩ := cpy_back B R I 0 ref _ (fun j hj h0 => hk.pos j hj (by omega)) (by omega) hz t2
  rw [List.length_append, ← Nat.add_assoc]
  refine ⟨?_, c2⟩
  unfold copies
  rw [t1, Option.bind_some]
  show (cpy B I.length 0 ref _).map _ = _
  rw [c1, Option.map_some]
  congr 2
  rw [← hcop, exp_snoc, Nat.zero_add, List.take_of_length_le (by rw [List.length_drop]; omega)]
  split
  · rfl
  · rw [List.append_nil]
theorem sumLen (l : List (Nat × Nat)) : (l.flatMap row).length = sum (l.map (·.2)) := by
  induction l with
  | nil => rfl
  | cons q l ih =>
    rw [List.flatMap_cons, List.length_append, ih, row, List.length_range']
    rfl
theorem zig_lt {v x : Nat} (hv : v < 65536) (hx : x < 65536) : zig ((v : Int) - x) ≤ 262144 := by
  unfold zig
  split <;> omega
theorem lng_back (B R : Bits) (x most itv : Nat) (hx : x < 65536) (hi : 2 ≤ itv) (hm : most ≤ 65536) : ∀ (l : List (Nat × Nat)) (e : Option Nat) (used a : Nat), Apart itv e l → used + (l.flatMap row).length ≤ most →
    B.drop a = bitsOf ((lnm x itv e l).map fun v => (Cd.gam, v)) ++ R →
    lng B x most itv l.length e used a = some (l.flatMap row, a + (bitsOf ((lnm x itv e l).map fun v => (Cd.gam, v))).length) ∧ B.drop (a + (bitsOf ((lnm x itv e l).map fun v => (Cd.gam, v))).length) = R
  | [], e, used, a, _, _, h => by
    have e1 : bitsOf ((lnm x itv e []).map fun v => (Cd.gam, v)) = [] := by cases e <;> rfl
    rw [e1] at h ⊢
    exact ⟨by simp [lng], by simpa using h⟩
  | (f, n) :: l, e, used, a, hA, hu, h => by
    rw [List.flatMap_cons, List.length_append, row, List.length_range'] at hu
    -- the first number of the row, and what it tells
    have key : ∃ v, lnm x itv e ((f, n) :: l) = v :: (n - itv) :: lnm x itv (some (f + n - 1)) l ∧ rowFrom x e v = (f : Int) ∧ v ≤ 262144 ∧ itv ≤ n ∧ f + n ≤ 65536 ∧ Apart itv (some (f + n - 1)) l := by
      cases e with
      | none =>
        obtain ⟨h1, h2, h3, h4⟩ := hA
        refine ⟨_, rfl, ?_, zig_lt (by omega) hx, h1, h3, h4⟩
        show zag _ + _ = _
        rw [zag_zig]; omega
      | some e =>
        obtain ⟨h0, h1, h2, h3, h4⟩ := hA
        refine ⟨_, rfl, ?_, by omega, h1, h3, h4⟩
        show ((f - e - 2 : Nat) : Int) + _ = _
        omega
    obtain ⟨v, hv, hf, hv2, hn, hfn, hA2⟩ := key
    rw [hv] at h ⊢
    have e1 : bitsOf ((v :: (n - itv) :: lnm x itv (some (f + n - 1)) l).map fun v => (Cd.gam, v)) = cb .gam v ++ (cb .gam (n - itv) ++ bitsOf ((lnm x itv (some (f + n - 1)) l).map fun v => (Cd.gam, v))) := rfl
    rw [e1] at h ⊢
    rw [List.append_assoc, List.append_assoc] at h
    obtain ⟨t1, t2⟩ := tk_cb (B := B) (c := .gam) (most := 262144) (a := a) trivial hv2 (by show _ ≤ 281474976710654; omega) h
    obtain ⟨s1, s2⟩ := tk_cb (B := B) (c := .gam) (most := most) (v := n - itv) trivial (by omega) (by show _ ≤ 281474976710654; omega) t2
    obtain ⟨c1, c2⟩ := lng_back B R x most itv hx hi hm l (some (f + n - 1)) (used + n) _ hA2 (by omega) s2
    rw [List.length_append, List.length_append, ← Nat.add_assoc, ← Nat.add_assoc]
    refine ⟨?_, c2⟩
    have hni : n - itv + itv = n := by omega
    show (tk B .gam 262144 a).bind _ = _
    rw [t1, Option.bind_some]
    show (tk B .gam most _).bind _ = _
    rw [s1, Option.bind_some]
    show (if _ then none else _) = _
    simp only [hf, hni]
    rw [if_neg (by omega)]
    show (lng B x most itv l.length (some ((f : Int).toNat + n - 1)) (used + n) _).map _ = _
    rw [Int.toNat_natCast, c1]
    rfl
theorem rsd_back (B R : Bits) (x zet : Nat) (hx : x < 65536) (hz : 1 ≤ zet ∧ zet ≤ 16) : ∀ (l : List Nat) (e : Option Nat) (a : Nat), l.Pairwise (· < ·) → (∀ v ∈ l, v < 65536) → (∀ u, e = some u → ∀ v ∈ l, u < v) →
    B.drop a = bitsOf ((znm x e l).map fun v => (Cd.zet zet, v)) ++ R →
    rsd B x zet l.length e a = some (l, a + (bitsOf ((znm x e l).map fun v => (Cd.zet zet, v))).length) ∧ B.drop (a + (bitsOf ((znm x e l).map fun v => (Cd.zet zet, v))).length) = R
  | [], e, a, _, _, _, h => by
    have e1 : bitsOf ((znm x e []).map fun v => (Cd.zet zet, v)) = [] := by cases e <;> rfl
    rw [e1] at h ⊢
    exact ⟨by simp [rsd], by simpa using h⟩
  | v :: l, e, a, hp, hb, he, h => by
    obtain ⟨p1, p2⟩ := List.pairwise_cons.1 hp
    have hv := hb v (List.mem_cons_self ..)
    have key : ∃ u, znm x e (v :: l) = u :: znm x (some v) l ∧ resAt x e u = (v : Int) ∧ u ≤ 262144 := by
      cases e with
      | none =>
        refine ⟨_, rfl, ?_, zig_lt hv hx⟩
        show zag _ + _ = _
        rw [zag_zig]; omega
      | some e =>
        have := he e rfl v (List.mem_cons_self ..)
        refine ⟨_, rfl, ?_, by omega⟩
        show ((v - e - 1 : Nat) : Int) + _ = _
        omega
    obtain ⟨u, hu, hf, hu2⟩ := key
    rw [hu] at h ⊢
    have e1 : bitsOf ((u :: znm x (some v) l).map fun v => (Cd.zet zet, v)) = cb (.zet zet) u ++ bitsOf ((znm x (some v) l).map fun v => (Cd.zet zet, v)) := rfl
    rw [e1] at h ⊢
    rw [List.append_assoc] at h
    obtain ⟨t1, t2⟩ := tk_cb (B := B) (c := .zet zet) (most := 262144) (a := a) hz hu2 (by show _ ≤ 281474976710654; omega) h
    obtain ⟨c1, c2⟩ := rsd_back B R x zet hx hz l (some v) _ p2 (fun w hw => hb w (List.mem_cons_of_mem _ hw)) (fun u hu w hw => by cases hu; exact p1 w hw) t2
    rw [List.length_append, ← Nat.add_assoc]
    refine ⟨?_, c2⟩
    show (tk B (.zet zet) 262144 a).bind _ = _
    rw [t1, Option.bind_some]
    simp only [hf]
    rw [if_neg (by omega), Int.toNat_natCast, c1]
    rfl
theorem Ris.len {l : List Nat} (h : Ris l) : l.length ≤ 65536 := by
  have key : ∀ (l : List Nat) (b : Nat), l.Pairwise (· < ·) → (∀ v ∈ l, b ≤ v ∧ v < 65536) → b ≤ 65536 → l.length + b ≤ 65536 := by
    intro l
    induction l with
    | nil => intro b _ _ h; simpa using h
    | cons a l ih =>
      intro b h1 h2 _
      obtain ⟨p1, p2⟩ := List.pairwise_cons.1 h1
      have ha := h2 a (List.mem_cons_self ..)
      have := ih (a + 1) p2 (fun v hv => ⟨p1 v hv, (h2 v (List.mem_cons_of_mem _ hv)).2⟩) (by omega)
      simp only [List.length_cons]
      omega
  have := key l 0 h.1 (fun v hv => ⟨Nat.zero_le _, h.2 v hv⟩) (by omega)
  omega
/-- what may be encoded -/
def MayN (x : Nat) (succ ref : List Nat) (r : Nat) (p : Pr) : Prop := p.ok ∧ x < 65536 ∧ Ris succ ∧ Ris ref ∧ r ≤ p.win ∧ (0 < r ∨ ref = [])
theorem nodup_of {l : List Nat} (h : l.Pairwise (· < ·)) : l.Nodup := h.imp (fun h => Nat.ne_of_lt h)
theorem both_perm {succ ref : List Nat} (h1 : Ris succ) (h2 : Ris ref) : List.Perm (ref.filter (isIn succ)) (succ.filter (isIn ref)) := by
  refine (List.perm_ext_iff_of_nodup ((nodup_of h2.1).filter _) ((nodup_of h1.1).filter _)).2 fun v => ?_
  rw [List.mem_filter, List.mem_filter, isIn_mem, isIn_mem]
  exact and_comm
/-- there and back -/
theorem dec_back (B R : Bits) (x n : Nat) (succ ref : List Nat) (r : Nat) (p : Pr) (a : Nat) (h : MayN x succ ref r p) (hs : succ ≠ []) (hn : ∀ v ∈ succ, v < n) (hB : B.drop a = bitsOf (tlN x succ ref r p) ++ R) :
    dec B x n succ.length ref r p a = some (succ, a + (bitsOf (tlN x succ ref r p)).length) := by
  obtain ⟨⟨hp1, hp2, hp3⟩, hx, hsu, hre, hr1, hr2⟩ := h
  have htl : tlN x succ ref r p = runN succ ref r ++ restN x (leftOf succ ref) p := by unfold tlN; rw [if_neg hs]
  have hB0 := hB
  rw [htl, bitsOf_append, List.append_assoc] at hB
  have hleft : Ris (leftOf succ ref) := ⟨hsu.1.sublist List.filter_sublist, fun v hv => hsu.2 v (List.mem_filter.1 hv).1⟩
  -- what is copied
  have s1 : ∃ a1, (if 0 < r then copies B ref a else some ([], a)) = some (ref.filter (isIn succ), a1) ∧ a1 = a + (bitsOf (runN succ ref r)).length ∧ B.drop a1 = bitsOf (restN x (leftOf succ ref) p) ++ R := by
    unfold runN at hB ⊢
    by_cases h0 : 0 < r
    · simp only [if_pos h0] at hB ⊢
      obtain ⟨c1, c2⟩ := copies_back B _ succ ref a hre.len hB
      exact ⟨_, c1, rfl, c2⟩
    · simp only [if_neg h0] at hB ⊢
      have : ref = [] := hr2.resolve_left h0
      subst this
      exact ⟨a, rfl, rfl, by simpa [bitsOf] using hB⟩
  obtain ⟨a1, hc, ha1, hB1⟩ := s1
  have hcl : (ref.filter (isIn succ)).length + (leftOf succ ref).length = succ.length := by
    have h1 := (both_perm hsu hre).length_eq
    have h2 := (List.filter_append_perm (isIn ref) succ).length_eq
    rw [List.length_append] at h2
    unfold leftOf
    omega
  obtain ⟨c, hcc⟩ : ∃ c, ref.filter (isIn succ) = c := ⟨_, rfl⟩
  rw [hcc] at hc hcl
  obtain ⟨L, hL⟩ : ∃ L, leftOf succ ref = L := ⟨_, rfl⟩
  rw [hL] at hB1 hcl hleft htl
  have RW := rws_ok p.itv L hleft
  obtain ⟨q, hq⟩ : ∃ q, rws p.itv L = q := ⟨_, rfl⟩
  rw [hq] at RW
  have hlen2 : (q.1.flatMap row).length + q.2.length = L.length := by
    have := RW.perm.length_eq
    rwa [List.length_append] at this
  have hq2 : Ris q.2 := ⟨hleft.1.sublist RW.sub, fun v hv => hleft.2 v (RW.sub.subset hv)⟩
  have hrest : restN x L p = if L = [] then [] else (if 0 < p.itv then [(Cd.gam, q.1.length)] else []) ++ (lnm x p.itv none q.1).map (fun v => (Cd.gam, v)) ++ (znm x none q.2).map (fun v => (Cd.zet p.zet, v)) := by
    unfold restN
    rw [hq]
  -- the rest
  have s2 : pars B x succ.length ref r p a = some (c, q.1.flatMap row, q.2, a + (bitsOf (tlN x succ ref r p)).length) := by
    rw [htl, bitsOf_append, List.length_append, ← Nat.add_assoc, ← ha1]
    unfold pars
    rw [hc, Option.bind_some]
    simp only
    rw [if_neg (by omega)]
    by_cases hL0 : L = []
    · subst hL0
      have e0 : restN x [] p = [] := rfl
      have eq0 : q = ([], []) := by rw [← hq, rws_nil]
      subst eq0
      simp only [List.length_nil] at hcl
      rw [if_neg (by omega), e0]
      show Option.map _ (rsd B x p.zet (succ.length - c.length - 0) none a1) = _
      rw [show succ.length - c.length - 0 = 0 by omega]
      rfl
    · have hLp : 0 < L.length := List.length_pos_iff.2 hL0
      have hLl := hleft.len
      rw [hrest, if_neg hL0] at hB1 ⊢
      by_cases hi : 0 < p.itv
      · rw [if_pos hi] at hB1 ⊢
        simp only [bitsOf_append, bitsOf_cons, bitsOf_nil, List.nil_append, List.append_assoc] at hB1
        obtain ⟨t1, t2⟩ := tk_cb (B := B) (c := .gam) (most := succ.length - c.length) (a := a1) (v := q.1.length) trivial (by
          have : q.1.length ≤ (q.1.flatMap row).length := by
            rw [sumLen]
            have hap := RW.apart
            generalize none = e at hap
            clear hc ha1 hB1 hq RW hlen2 hrest
            generalize q.1 = l at hap ⊢
            induction l generalizing e with
            | nil => simp
            | cons t l ih =>
              obtain ⟨f, n⟩ := t
              have h1 : 0 < n ∧ Apart p.itv (some (f + n - 1)) l := by
                cases e with
                | none => exact ⟨hap.2.1, hap.2.2.2⟩
                | some e => exact ⟨hap.2.2.1, hap.2.2.2.2⟩
              have h2 := ih _ h1.2
              show l.length + 1 ≤ n + sum (l.map (·.2))
              omega
          omega) (by
          show _ ≤ 281474976710654
          have : q.1.length ≤ (q.1.flatMap row).length := by
            rw [sumLen]
            have hap := RW.apart
            generalize none = e at hap
            clear hc ha1 hB1 hq RW hlen2 hrest
            generalize q.1 = l at hap ⊢
            induction l generalizing e with
            | nil => simp
            | cons t l ih =>
              obtain ⟨f, n⟩ := t
              have h1 : 0 < n ∧ Apart p.itv (some (f + n - 1)) l := by
                cases e with
                | none => exact ⟨hap.2.1, hap.2.2.2⟩
                | some e => exact ⟨hap.2.2.1, hap.2.2.2.2⟩
              have h2 := ih _ h1.2
              show l.length + 1 ≤ n + sum (l.map (·.2))
              omega
          omega) hB1
        obtain ⟨l1, l2⟩ := lng_back B _ x (succ.length - c.length) p.itv hx (by omega) (by omega) q.1 none 0 _ RW.apart (by omega) t2
        obtain ⟨z1, z2⟩ := rsd_back B R x p.zet hx hp3 q.2 none _ hq2.1 hq2.2 (fun _ h => by cases h) l2
        rw [if_pos ⟨by omega, hi⟩]
        have el : longs B x (succ.length - c.length) p.itv a1 = some (q.1.flatMap row, a1 + (cb .gam q.1.length).length + (bitsOf ((lnm x p.itv none q.1).map fun v => (Cd.gam, v))).length) := by
          unfold longs
          rw [t1, Option.bind_some]
          exact l1
        rw [el, Option.bind_some]
        simp only
        rw [show succ.length - c.length - (q.1.flatMap row).length = q.2.length by omega, z1]
        simp only [bitsOf_append, bitsOf_cons, bitsOf_nil, List.append_nil, List.length_append, Nat.add_assoc, Option.map_some]
      · rw [if_neg hi] at hB1 ⊢
        have h0 : p.itv = 0 := by omega
        have hq0 : q = ([], L) := by rw [← hq, h0, rws_zero]
        subst hq0
        rw [if_neg (by omega)]
        have hB2 : B.drop a1 = bitsOf ((znm x none L).map fun v => (Cd.zet p.zet, v)) ++ R := hB1
        obtain ⟨z1, z2⟩ := rsd_back B R x p.zet hx hp3 L none _ hleft.1 hleft.2 (fun _ h => by cases h) hB2
        show Option.map _ (rsd B x p.zet (succ.length - c.length - 0) none a1) = _
        rw [show succ.length - c.length - 0 = L.length by omega, z1]
        rfl
  have hperm : List.Perm succ (c ++ q.1.flatMap row ++ q.2) := by
    have h1 : List.Perm (c ++ L) succ := by
      rw [← hcc, ← hL]
      exact ((both_perm hsu hre).append_right _).trans (List.filter_append_perm (isIn ref) succ)
    rw [List.append_assoc]
    exact h1.symm.trans (RW.perm.symm.append_left c)
  have hsrt := srtN_eq hperm hsu.1
  unfold dec
  rw [s2, Option.bind_some]
  simp only [hsrt]
  rw [if_pos]
  refine ⟨hsu.1, hperm.length_eq.symm, fun v hv => hn v (hperm.symm.subset hv), ?_⟩
  rw [hB0, Nat.add_sub_cancel_left, List.take_left]
end Go.Proofs.YtflnpcgnenhogaaDoor.ls
