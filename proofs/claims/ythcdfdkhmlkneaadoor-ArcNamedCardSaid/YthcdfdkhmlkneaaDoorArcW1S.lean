/- Keys that all fit: what a cache is while no more different keys than its size were ever touched. No program in sight. -/
import Derived.Test.YthcdfdkhmlkneaaDoorArcPS
namespace Go.Proofs.YthcdfdkhmlkneaaDoor.arcS

theorem nodup_of_count {l : List K} (h : ∀ a, l.count a ≤ 1) : l.Nodup := by
  rw [List.nodup_iff_count]
  exact h
/-- as many different ones as the other list has, at most -/
theorem nodup_len : ∀ (l m : List K), l.Nodup → (∀ a, a ∈ l → a ∈ m) → l.length ≤ m.length
  | [], _, _, _ => Nat.zero_le _
  | a :: l, m, hn, hs => by
    have ha : a ∈ m := hs a List.mem_cons_self
    have hn' := List.nodup_cons.1 hn
    have := nodup_len l (m.erase a) hn'.2 fun b hb => by
      refine (List.mem_erase_of_ne ?_).2 (hs b (List.mem_cons_of_mem _ hb))
      rintro rfl
      exact hn'.1 hb
    have h1 := len_erase ha
    simp only [List.length_cons]
    omega

/-- a cache of whose n keys (key 0, ..) some were touched: f tells which -/
structure Fits (s : St) (n : Nat) (key : Nat → K) (f : K → Nat) : Prop where
  ok : Ok s
  size : s.size = n
  wonce : s.wonce = []
  woften : s.woften = []
  from_ : ∀ a, a ∈ s.once ∨ a ∈ s.often → ∃ j, j < n ∧ a = key j
  seen : ∀ a, (a ∈ s.once ∨ a ∈ s.often) ↔ 0 < f a
theorem Fits.new {n : Nat} (hn : 1 ≤ n ∧ n ≤ 4096) (key : Nat → K) : Fits ⟨n, [], [], [], [], 0, fun _ => 0⟩ n key (fun _ => 0) :=
  ⟨⟨hn, Nat.zero_le _, Nat.zero_le _, Nat.zero_le _, Nat.zero_le _, fun a => by show 0 + 0 + 0 + 0 ≤ 1; omega, fun a ha => by simp at ha, fun a ha => absurd ha (by show ¬ (0 < 0); omega)⟩, rfl, rfl, rfl, fun a ha => by simp at ha, fun a => by simp⟩

theorem Fits.room {s : St} {n : Nat} {key : Nat → K} {f : K → Nat} (h : Fits s n key f) {j : Nat} (hj : j < n) (hk : ¬ (key j ∈ s.once ∨ key j ∈ s.often)) : s.once.length + s.often.length < n := by
  have hnd : (key j :: (s.once ++ s.often)).Nodup := by
    rw [List.nodup_cons]
    refine ⟨by simpa using hk, nodup_of_count fun a => ?_⟩
    have := h.ok.one a
    rw [List.count_append]
    omega
  have := nodup_len _ ((List.range n).map key) hnd fun a ha => by
    rw [List.mem_map]
    rcases List.mem_cons.1 ha with rfl | ha
    · exact ⟨j, List.mem_range.2 hj, rfl⟩
    · obtain ⟨i, hi, rfl⟩ := h.from_ a (by simpa using ha)
      exact ⟨i, List.mem_range.2 hi, rfl⟩
  simp at this
  omega

theorem Fits.touch {s : St} {n : Nat} {key : Nat → K} {f : K → Nat} (h : Fits s n key f) {j : Nat} (hj : j < n) (hok : (List.length (key j) ≤ maxLen)) :
    (touchS s (key j)).2 = (decide (0 < f (key j)), none, 0) ∧ Fits (touchS s (key j)).1 n key (fun a => if a = key j then 1 else f a) := by
  have hT := touchS_ok s (key j) h.ok hok
  by_cases hk : key j ∈ s.once ∨ key j ∈ s.often
  · have e : touchS s (key j) = ({ s with once := s.once.erase (key j), often := s.often.erase (key j) ++ [key j] }, true, none, 0) := by unfold touchS; rw [if_pos hk]
    have hm : ∀ a, (a ∈ s.once.erase (key j) ∨ a ∈ s.often.erase (key j) ++ [key j]) ↔ (a ∈ s.once ∨ a ∈ s.often) := fun a => by
      by_cases ha : a = key j
      · subst ha; simp [hk]
      · rw [List.mem_erase_of_ne ha, List.mem_append, List.mem_erase_of_ne ha]; simp [ha]
    rw [e] at hT ⊢
    refine ⟨by rw [decide_eq_true ((h.seen _).1 hk)], hT.ok, h.size, h.wonce, h.woften, fun a ha => h.from_ a ((hm a).1 ha), fun a => (hm a).trans ?_⟩
    by_cases ha : a = key j
    · subst ha; simp [hk]
    · rw [if_neg ha]; exact h.seen a
  · have hlt := h.room hj hk
    have hf0 : ¬ 0 < f (key j) := fun hf => hk ((h.seen _).2 hf)
    have hfull : isFull s = false := by
      unfold isFull
      have := h.size
      simp
      omega
    have hstuck : stuck s = false := by unfold stuck; rw [hfull]; rfl
    have hadd : addS s = (s, none) := by
      unfold addS
      have h1 := h.size
      rw [h.wonce, h.woften]
      simp only [List.length_nil, Nat.add_zero]
      rw [if_neg (by omega), if_pos (by omega)]
    have e : touchS s (key j) = ({ s with once := s.once ++ [key j] }, false, none, 0) := by
      unfold touchS
      rw [if_neg hk, hstuck, if_neg (by simp), if_neg (by rw [h.wonce]; simp), if_neg (by rw [h.woften]; simp), hadd]
    have hm : ∀ a, (a ∈ s.once ++ [key j] ∨ a ∈ s.often) ↔ ((a ∈ s.once ∨ a ∈ s.often) ∨ a = key j) := fun a => by
      rw [List.mem_append, List.mem_singleton]
      constructor
      · rintro ((h1 | h1) | h1)
        · exact .inl (.inl h1)
        · exact .inr h1
        · exact .inl (.inr h1)
      · rintro ((h1 | h1) | h1)
        · exact .inl (.inl h1)
        · exact .inr h1
        · exact .inl (.inr h1)
    rw [e] at hT ⊢
    refine ⟨by rw [decide_eq_false hf0], hT.ok, h.size, h.wonce, h.woften, fun a ha => ?_, fun a => (hm a).trans ?_⟩
    · rcases (hm a).1 ha with h1 | rfl
      · exact h.from_ a h1
      · exact ⟨j, hj, rfl⟩
    · by_cases ha : a = key j
      · subst ha; simp
      · rw [if_neg ha]
        simp only [ha, or_false]
        exact h.seen a
end Go.Proofs.YthcdfdkhmlkneaaDoor.arcS
