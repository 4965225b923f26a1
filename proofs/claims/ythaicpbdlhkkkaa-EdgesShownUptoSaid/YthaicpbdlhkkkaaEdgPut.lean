/- Statement EdgesShown: the document's put. -/
import Derived.Test.YthaicpbdlhkkkaaEdgGrV
import Derived.Test.YthaicpbdlhkkkaaOwn2
import Derived.Deep.CutBlock
namespace Go.Proofs.Ythaicpbdlhkkkaa.edg
open Go.RowKit Go.Proofs.Ythaicpbdlhkkkaa.own Go.Proofs.Ythaicpbdlhkkkaa.so

/-- append of cells that lie anywhere, few or none -/
theorem run_append_src {P : Program} (w : World) (base : Nat) (t ty e : TypeId) (i : TypeInfo) (z : Value) (bytes : Nat) (ht : P.underlying t = some (.slice e)) (hi : P.info? e = some i) (hz : i.zero = some z)
    (hsize : i.size = 1) (hby : i.bytes = bytes) (hzs : z.cells.size = 1)
    (v : Value) (n : Nat) (xs : List Value) (hown : w.ownsRow base e 1 v n xs) (ao : Option Addr) (m c : Nat) (ys : List Value) (hy : ys.length = m) (hnone : ao = none → m = 0 ∧ c = 0) (hc : ∀ ad, ao = some ad → ∀ j u, ys[j]? = some u → w.cell? (ad.add j) = some u) (h1 : ∀ y ∈ ys, y.oneCell' = true)
    (h63 : n + m ≤ maxLen) (hbytes : (n + m) * bytes ≤ 140737488355328) (hbase : base ≤ w.heap.size) :
    ∃ v' w', (Builtin.append_ #[t, t] ty #[v, .slice ao m c]).run P w = .ok v' w' ∧ w'.ownsRow base e 1 v' (n + m) (xs ++ ys) ∧ w.grownBy w' v.ownBlock ∧ (v'.ownBlock = v.ownBlock ∨ v'.ownBlock = some w.heap.size) := by
  obtain ⟨av, cv, hv, hle⟩ := own_slice hown
  by_cases hm : m = 0
  · subst hm
    have hys : ys = [] := List.eq_nil_of_length_eq_zero hy
    subst hys
    have hs : Src P i.size t (.slice ao 0 c) 0 [] w := by
      cases ao with
      | none => obtain ⟨_, rfl⟩ := hnone rfl; exact Src.ofNil w ht 0
      | some ad => exact Src.ofSlice w ht ad 0 c [] (by simp) (fun j u hu => by simp at hu) (fun u hu => by cases hu)
    subst hv
    refine ⟨_, w, run_append_nothing w t t ty e i ht hi av n cv hle _ hs, ?_, ⟨rfl, rfl, rfl, Nat.le_refl _, fun _ _ _ => rfl⟩, .inl rfl⟩
    rw [List.append_nil]
    exact hown
  · cases ao with
    | none => exact absurd (hnone rfl).1 hm
    | some ad =>
      obtain ⟨v', w', hr, h2, h3, _⟩ := run_append_own (P := P) w base t ty e i z 1 bytes ht hi hz hsize hby hzs (by decide) v n xs hown ad m c ys (by omega) (hc ad rfl) h1 h63 hbytes hbase
      exact ⟨v', w', hr, h2, h3, append_where w base t ty e i z 1 bytes ht hi hz hsize hby v n xs hown ad m c ys (by omega) (hc ad rfl) h1 h63 hbytes (by omega) hr⟩

/-- a list that is put together in memory of the call's own -/
def PS (w0 : World) (acc : List Int) (v : Value) (ks : List (Nat × Int)) (W : World) : Prop :=
  Below w0.heap.size w0 W ∧ W.ownsRow w0.heap.size 35 1 v acc.length (acc.map U) ∧ ∀ p ∈ ks, W.heap[p.1]? = some (.cells #[.int .u32 p.2] 35 (0, 0)) ∧ v.ownBlock ≠ some p.1
theorem PS.next {w0 W W2 : World} {acc : List Int} {v : Value} {ks : List (Nat × Int)} (h : PS w0 acc v ks W) (k : Below W.heap.size W W2) : PS w0 acc v ks W2 :=
  ⟨h.1.trans (k.mono h.1.size), own_below h.2.1 k, fun p hp => ⟨(k.block _ (lt_of_block (h.2.2 p hp).1)).trans (h.2.2 p hp).1, (h.2.2 p hp).2⟩⟩
theorem PS.drew {w0 W : World} {acc : List Int} {v : Value} {ks : List (Nat × Int)} (h : PS w0 acc v ks W) : PS w0 acc v ks W.drew := h.next (Below.drew (Below.refl _ _))
theorem PS.one {w0 W : World} {acc : List Int} {v : Value} {ks : List (Nat × Int)} (h : PS w0 acc v ks W) (c : Int) : PS w0 acc v ((W.heap.size, c) :: ks) (W.alloc (.cells #[.int .u32 c] 35)) := by
  have k : Below W.heap.size W (W.alloc (.cells #[.int .u32 c] 35)) := (Below.refl _ _).alloc (Nat.le_refl _) _
  obtain ⟨g1, g2, g3⟩ := h.next k
  refine ⟨g1, g2, fun p hp => ?_⟩
  rcases List.mem_cons.1 hp with rfl | hp
  · refine ⟨heap_alloc_new W _, fun e => ?_⟩
    have := (h.2.1.lt _ e).2
    omega
  · exact g3 p hp
/-- the empty list -/
theorem PS.start {w0 W : World} (h : Below w0.heap.size w0 W) : PS w0 [] (.slice (some ⟨W.heap.size, 0, none⟩) 0 0) [] (W.alloc (.cells #[] 35)) :=
  ⟨h.alloc h.size _, ⟨rfl, .inr ⟨W.heap.size, 0, #[], rfl, h.size, heap_alloc_new W _, Nat.le_refl _, Nat.zero_le _, rfl, rfl⟩⟩, fun p hp => by cases hp⟩
/-- more of them, as a step of a region that draws -/
theorem PS.add {w0 W : World} {acc ys : List Int} {v : Value} {ks : List (Nat × Int)} {o : Oper} {a : Act} {K : Act → World → Prop} {Q : Exit → Act → World → Prop} {c : Bool} {E : Prop} (h : PS w0 acc v ks W) (hc : c = true) (s x : Operand)
    (ho : o.op = .call { callee := .builtin .append, args := #[s, x], argTypes := #[47, 47] }) (hs : a.eval s = v) (ao : Option Addr) (m cp : Nat) (hx : a.eval x = .slice ao m cp) (hy : ys.length = m) (hnone : ao = none → m = 0 ∧ cp = 0)
    (hcell : ∀ ad, ao = some ad → ∀ j u, (ys.map U)[j]? = some u → W.cell? (ad.add j) = some u) (hl : acc.length + m ≤ 1099511627776)
    (hK : ∀ v' w', PS w0 (acc ++ ys) v' ks w' → K (a.put o.dst v') w') :
    if c = true then Oper.wp Try.prog o a W K Q else E := by
  rw [if_pos hc]
  obtain ⟨i0, hi, hz0, hz1, hz2⟩ := info_parts Try.infoU32
  have h1 : ∀ y ∈ ys.map U, y.oneCell' = true := by intro y hy; obtain ⟨q, _, rfl⟩ := List.mem_map.1 hy; rfl
  obtain ⟨v', w', hr, h2, h3, hat⟩ := run_append_src (P := Try.prog) W w0.heap.size 47 o.type 35 i0 _ 4 Try.underlying47 hi hz0 hz1 hz2 rfl v acc.length (acc.map U) h.2.1 ao m cp (ys.map U) (by simpa using hy) hnone hcell h1 (by simp only [maxLen]; omega) (by omega) h.1.size
  unfold Oper.wp execOp
  simp only [ho, resolve, invoke, builtin, Sem.run_bind, Sem.run_pure, Result.andThen_ok, List.map_toArray, List.map_cons, List.map_nil, hs, hx, hr]
  refine hK v' w' ⟨h.1.grown h3 h.1.size (fun k hk => (h.2.1.lt k hk).1), ?_, fun p hp => ?_⟩
  · rw [List.length_append, List.map_append, hy]; exact h2
  · obtain ⟨g1, g2⟩ := h.2.2 p hp
    refine ⟨(h3.block p.1 (lt_of_block g1) (fun e => g2 e.symm)).trans g1, fun e => ?_⟩
    rcases hat with e2 | e2
    · rw [e2] at e; exact g2 e
    · rw [e2] at e
      injection e with e
      have := lt_of_block g1
      omega

/-! ### the plain law -/
/-- one more in a list that rises -/
def ins : List Int → Int → List Int
  | [], t => [t]
  | x :: r, t => if x < t then x :: ins r t else if x = t then x :: r else t :: x :: r
theorem ins_mem (xs : List Int) (t x : Int) : x ∈ ins xs t ↔ x ∈ xs ∨ x = t := by
  induction xs with
  | nil => simp [ins]
  | cons y r ih =>
    unfold ins
    split
    · rw [List.mem_cons, ih, List.mem_cons, or_assoc]
    · split
      · rename_i h; subst h; simp; intro e; exact .inl e
      · simp only [List.mem_cons]
        constructor
        · rintro (h | h | h)
          · exact .inr h
          · exact .inl (.inl h)
          · exact .inl (.inr h)
        · rintro ((h | h) | h)
          · exact .inr (.inl h)
          · exact .inr (.inr h)
          · exact .inl h
theorem ins_rises (xs : List Int) (t : Int) (h : xs.Pairwise (· < ·)) : (ins xs t).Pairwise (· < ·) := by
  induction xs with
  | nil => simp [ins]
  | cons y r ih =>
    obtain ⟨h1, h2⟩ := List.pairwise_cons.1 h
    unfold ins
    split
    · rename_i hy
      refine List.pairwise_cons.2 ⟨fun z hz => ?_, ih h2⟩
      rcases (ins_mem r t z).1 hz with hz | hz
      · exact h1 z hz
      · rw [hz]; exact hy
    · split
      · exact h
      · rename_i hy hne
        refine List.pairwise_cons.2 ⟨fun z hz => ?_, h⟩
        rcases List.mem_cons.1 hz with hz | hz
        · subst hz; omega
        · have := h1 z hz; omega
/-- where it is put -/
theorem ins_at (xs : List Int) (t : Int) (i : Nat) (hi : i ≤ xs.length) (hlo : ∀ j (h : j < xs.length), j < i → xs[j] < t) (hhi : ∀ h : i < xs.length, ¬ xs[i] < t) :
    ins xs t = if h : i < xs.length then (if xs[i] = t then xs else xs.take i ++ t :: xs.drop i) else xs ++ [t] := by
  induction xs generalizing i with
  | nil => simp [ins]
  | cons y r ih =>
    cases i with
    | zero =>
      have h0 := hhi (by simp)
      simp only [List.getElem_cons_zero] at h0
      unfold ins
      rw [if_neg h0]
      simp
    | succ i =>
      have h0 := hlo 0 (by simp) (by omega)
      simp only [List.getElem_cons_zero] at h0
      unfold ins
      rw [if_pos h0, ih i (by simpa using hi) (fun j h hj => by have := hlo (j + 1) (by simpa using h) (by omega); simpa using this) (fun h => by have := hhi (by simpa using h); simpa using this)]
      by_cases h : i < r.length
      · have h' : i + 1 < (y :: r).length := by simpa using h
        rw [dif_pos h, dif_pos h']
        simp only [List.getElem_cons_succ]
        split <;> simp
      · have h' : ¬ i + 1 < (y :: r).length := by simpa using h
        rw [dif_neg h, dif_neg h']
        simp
end Go.Proofs.Ythaicpbdlhkkkaa.edg
