/- The plain law of a cache: what a call makes of it, and what holds of it always. No program in sight. -/
import Derived.Test.YtbgbomlmgkgkoaaGreatArcRI
namespace Go.Proofs.YtbgbomlmgkgkoaaGreat.arcI

def addS (s : St) : St × Option K :=
  if s.once.length + s.wonce.length = s.size then
    if s.once.length < s.size then roomS { s with wonce := s.wonce.tail } false
    else match freeK s.pins s.once with
      | some k => ({ s with once := s.once.erase k }, some k)
      | none => (s, none)
  else if s.once.length + s.often.length + s.wonce.length + s.woften.length < s.size then (s, none)
  else roomS (if s.once.length + s.often.length + s.wonce.length + s.woften.length = 2 * s.size then { s with woften := s.woften.tail } else s) false

def upS (s : St) : St := { s with target := min s.size (s.target + max 1 (s.woften.length / s.wonce.length)) }
def downS (s : St) : St := { s with target := s.target - max 1 (s.wonce.length / s.woften.length) }
def stuck (s : St) : Bool := isFull s && !(freeK s.pins s.once).isSome && !(freeK s.pins s.often).isSome

/-- what a touch does: the cache behind it; a hit; the key that is gone; the error -/
def touchS (s : St) (k : K) : St × Bool × Option K × Nat :=
  if k ∈ s.once ∨ k ∈ s.often then ({ s with once := s.once.erase k, often := s.often.erase k ++ [k] }, true, none, 0)
  else if stuck s = true then (s, false, none, 13)
  else if k ∈ s.wonce then
    ({ (roomS (upS s) false).1 with wonce := (roomS (upS s) false).1.wonce.erase k, often := (roomS (upS s) false).1.often ++ [k] }, false, (roomS (upS s) false).2, 0)
  else if k ∈ s.woften then
    ({ (roomS (downS s) true).1 with woften := (roomS (downS s) true).1.woften.erase k, often := (roomS (downS s) true).1.often ++ [k] }, false, (roomS (downS s) true).2, 0)
  else ({ (addS s).1 with once := (addS s).1.once ++ [k] }, false, (addS s).2, 0)

/-- what holds of a cache always -/
structure Ok (s : St) : Prop where
  size : 1 ≤ s.size ∧ s.size ≤ 4096
  target : s.target ≤ s.size
  held : s.once.length + s.often.length ≤ s.size
  first : s.once.length + s.wonce.length ≤ s.size
  all : s.once.length + s.often.length + s.wonce.length + s.woften.length ≤ 2 * s.size
  one : ∀ a, s.once.count a + s.often.count a + s.wonce.count a + s.woften.count a ≤ 1
  keys : ∀ a, (a ∈ s.once ∨ a ∈ s.often ∨ a ∈ s.wonce ∨ a ∈ s.woften) → ((Lit.int .i64 a).wf = true)
  pinned : ∀ a, 0 < s.pins a → a ∈ s.once ∨ a ∈ s.often

theorem count_pos {a : K} {l : List K} (h : a ∈ l) : 1 ≤ l.count a := List.count_pos_iff.2 h
theorem len_erase {a : K} {l : List K} (h : a ∈ l) : (l.erase a).length + 1 = l.length := by
  have := List.length_pos_of_mem h
  rw [List.length_erase_of_mem h]; omega
theorem cnt_erase (a b : K) (l : List K) : (l.erase b).count a = l.count a - (if b = a then 1 else 0) := by
  rw [List.count_erase]
  by_cases h : b = a <;> simp [h]
theorem cnt_snoc (a b : K) (l : List K) : (l ++ [b]).count a = l.count a + (if b = a then 1 else 0) := by
  rw [List.count_append, List.count_singleton]
  by_cases h : b = a <;> simp [h]

theorem roomS_cases (s : St) (oft : Bool) (hfr : isFull s = true → (freeK s.pins s.once).isSome = true ∨ (freeK s.pins s.often).isSome = true) :
    (isFull s = false ∧ roomS s oft = (s, none)) ∨
    (∃ k, k ∈ s.once ∧ s.pins k = 0 ∧ roomS s oft = ({ s with once := s.once.erase k, wonce := s.wonce ++ [k] }, some k)) ∨
    (∃ k, k ∈ s.often ∧ s.pins k = 0 ∧ roomS s oft = ({ s with often := s.often.erase k, woften := s.woften ++ [k] }, some k)) := by
  unfold roomS
  cases hf : isFull s with
  | false => exact .inl ⟨rfl, by simp⟩
  | true =>
    have h0 := hfr hf
    right
    cases hp : pickOnce s oft with
    | true =>
      rcases hk : freeK s.pins s.once with _ | k
      · exfalso
        unfold pickOnce at hp
        rw [hk] at hp h0
        rcases h0 with h | h
        · cases h
        · rw [h] at hp; simp at hp
      · exact .inl ⟨k, (freeK_mem hk).1, (freeK_mem hk).2, by simp⟩
    | false =>
      rcases hk : freeK s.pins s.often with _ | k
      · exfalso
        unfold pickOnce at hp
        rw [hk] at hp h0
        rcases h0 with h | h
        · rw [h] at hp; cases hfo : firstOf s oft <;> rw [hfo] at hp <;> simp at hp
        · cases h
      · exact .inr ⟨k, (freeK_mem hk).1, (freeK_mem hk).2, by simp⟩

/-- what room makes of a cache -/
structure RoomOk (s t : St) (gn : Option K) : Prop where
  ok : Ok t
  held : t.once.length + t.often.length < s.size
  size : t.size = s.size
  target : t.target = s.target
  pins : t.pins = s.pins
  gone : ∀ g, gn = some g → s.pins g = 0 ∧ (g ∈ s.once ∨ g ∈ s.often) ∧ g ∉ t.once ∧ g ∉ t.often
  first : t.once.length + t.wonce.length ≤ s.once.length + s.wonce.length
  all : t.once.length + t.often.length + t.wonce.length + t.woften.length ≤ s.once.length + s.often.length + s.wonce.length + s.woften.length
  stay : ∀ a, a ∈ t.once ∨ a ∈ t.often → a ∈ s.once ∨ a ∈ s.often
  keep : ∀ a, a ∈ s.once ∨ a ∈ s.often → gn ≠ some a → a ∈ t.once ∨ a ∈ t.often
  wonce : ∀ a, a ∈ s.wonce → a ∈ t.wonce
  woften : ∀ a, a ∈ s.woften → a ∈ t.woften

theorem roomS_ok (s : St) (oft : Bool) (h : Ok s) (hfr : isFull s = true → (freeK s.pins s.once).isSome = true ∨ (freeK s.pins s.often).isSome = true) :
    RoomOk s (roomS s oft).1 (roomS s oft).2 := by
  have hheld := h.held
  have hone := h.one
  rcases roomS_cases s oft hfr with ⟨hf, e⟩ | ⟨k, hk, hp, e⟩ | ⟨k, hk, hp, e⟩
  · rw [e]
    have hne : s.once.length + s.often.length ≠ s.size := by simpa [isFull] using hf
    exact ⟨h, by show s.once.length + s.often.length < s.size; omega, rfl, rfl, rfl, fun g hg => by (simp at hg), Nat.le_refl _, Nat.le_refl _, fun a ha => ha, fun a ha _ => ha, fun a ha => ha, fun a ha => ha⟩
  · rw [e]
    have hl := len_erase hk
    have hc := count_pos hk
    have hk1 := hone k
    refine ⟨⟨h.size, h.target, ?_, ?_, ?_, ?_, ?_, ?_⟩, ?_, rfl, rfl, rfl, ?_, ?_, ?_, ?_, ?_, ?_, ?_⟩
    · show (s.once.erase k).length + s.often.length ≤ s.size; omega
    · have := h.first; show (s.once.erase k).length + (s.wonce ++ [k]).length ≤ s.size; simp; omega
    · have := h.all; show (s.once.erase k).length + s.often.length + (s.wonce ++ [k]).length + s.woften.length ≤ 2 * s.size; simp; omega
    · intro a
      have := hone a
      show (s.once.erase k).count a + s.often.count a + (s.wonce ++ [k]).count a + s.woften.count a ≤ 1
      rw [cnt_erase, cnt_snoc]
      by_cases hka : k = a
      · subst hka; simp; omega
      · simp [hka]; omega
    · intro a ha
      rcases ha with ha | ha | ha | ha
      · exact h.keys a (.inl (List.mem_of_mem_erase ha))
      · exact h.keys a (.inr (.inl ha))
      · rcases List.mem_append.1 ha with ha | ha
        · exact h.keys a (.inr (.inr (.inl ha)))
        · simp at ha; subst ha; exact h.keys _ (.inl hk)
      · exact h.keys a (.inr (.inr (.inr ha)))
    · intro a ha
      rcases h.pinned a ha with hh | hh
      · left
        refine (List.mem_erase_of_ne ?_).2 hh
        rintro rfl
        have : s.pins a = 0 := hp
        have h2 : 0 < s.pins a := ha
        omega
      · exact .inr hh
    · show (s.once.erase k).length + s.often.length < s.size; omega
    · intro g hg
      have hgk : k = g := by simpa using hg
      subst hgk
      refine ⟨hp, .inl hk, fun hm => ?_, fun hm => ?_⟩
      · have := count_pos (show k ∈ s.once.erase k from hm); rw [cnt_erase] at this; simp at this; omega
      · have := count_pos (show k ∈ s.often from hm); omega
    · show (s.once.erase k).length + (s.wonce ++ [k]).length ≤ _; simp; omega
    · show (s.once.erase k).length + s.often.length + (s.wonce ++ [k]).length + s.woften.length ≤ _; simp; omega
    · intro a ha
      rcases ha with ha | ha
      · exact .inl (List.mem_of_mem_erase ha)
      · exact .inr ha
    · intro a ha hne
      rcases ha with ha | ha
      · exact .inl ((List.mem_erase_of_ne (by rintro rfl; exact hne rfl)).2 ha)
      · exact .inr ha
    · intro a ha; exact List.mem_append_left _ ha
    · intro a ha; exact ha
  · rw [e]
    have hl := len_erase hk
    have hc := count_pos hk
    have hk1 := hone k
    refine ⟨⟨h.size, h.target, ?_, ?_, ?_, ?_, ?_, ?_⟩, ?_, rfl, rfl, rfl, ?_, ?_, ?_, ?_, ?_, ?_, ?_⟩
    · show s.once.length + (s.often.erase k).length ≤ s.size; omega
    · exact h.first
    · have := h.all; show s.once.length + (s.often.erase k).length + s.wonce.length + (s.woften ++ [k]).length ≤ 2 * s.size; simp; omega
    · intro a
      have := hone a
      show s.once.count a + (s.often.erase k).count a + s.wonce.count a + (s.woften ++ [k]).count a ≤ 1
      rw [cnt_erase, cnt_snoc]
      by_cases hka : k = a
      · subst hka; simp; omega
      · simp [hka]; omega
    · intro a ha
      rcases ha with ha | ha | ha | ha
      · exact h.keys a (.inl ha)
      · exact h.keys a (.inr (.inl (List.mem_of_mem_erase ha)))
      · exact h.keys a (.inr (.inr (.inl ha)))
      · rcases List.mem_append.1 ha with ha | ha
        · exact h.keys a (.inr (.inr (.inr ha)))
        · simp at ha; subst ha; exact h.keys _ (.inr (.inl hk))
    · intro a ha
      rcases h.pinned a ha with hh | hh
      · exact .inl hh
      · right
        refine (List.mem_erase_of_ne ?_).2 hh
        rintro rfl
        have : s.pins a = 0 := hp
        have h2 : 0 < s.pins a := ha
        omega
    · show s.once.length + (s.often.erase k).length < s.size; omega
    · intro g hg
      have hgk : k = g := by simpa using hg
      subst hgk
      refine ⟨hp, .inr hk, fun hm => ?_, fun hm => ?_⟩
      · have := count_pos (show k ∈ s.once from hm); omega
      · have := count_pos (show k ∈ s.often.erase k from hm); rw [cnt_erase] at this; simp at this; omega
    · exact Nat.le_refl _
    · show s.once.length + (s.often.erase k).length + s.wonce.length + (s.woften ++ [k]).length ≤ _; simp; omega
    · intro a ha
      rcases ha with ha | ha
      · exact .inl ha
      · exact .inr (List.mem_of_mem_erase ha)
    · intro a ha hne
      rcases ha with ha | ha
      · exact .inl ha
      · exact .inr ((List.mem_erase_of_ne (by rintro rfl; exact hne rfl)).2 ha)
    · intro a ha; exact ha
    · intro a ha; exact List.mem_append_left _ ha

theorem not_stuck {s : St} (h : stuck s = false) : isFull s = true → (freeK s.pins s.once).isSome = true ∨ (freeK s.pins s.often).isSome = true := by
  intro hf
  unfold stuck at h
  rw [hf] at h
  cases h1 : (freeK s.pins s.once).isSome with
  | true => exact .inl rfl
  | false =>
    rw [h1] at h
    right
    simpa using h

/-- the oldest remembered key is forgotten -/
theorem Ok.tailW {s : St} (h : Ok s) : Ok { s with wonce := s.wonce.tail } := by
  refine ⟨h.size, h.target, h.held, ?_, ?_, ?_, ?_, h.pinned⟩
  · have := h.first; show s.once.length + s.wonce.tail.length ≤ s.size; rw [List.length_tail]; omega
  · have := h.all; show s.once.length + s.often.length + s.wonce.tail.length + s.woften.length ≤ 2 * s.size; rw [List.length_tail]; omega
  · intro a
    have := h.one a
    have h2 : s.wonce.tail.count a ≤ s.wonce.count a := (List.tail_sublist _).count_le a
    show s.once.count a + s.often.count a + s.wonce.tail.count a + s.woften.count a ≤ 1
    omega
  · intro a ha
    rcases ha with ha | ha | ha | ha
    · exact h.keys a (.inl ha)
    · exact h.keys a (.inr (.inl ha))
    · exact h.keys a (.inr (.inr (.inl (List.mem_of_mem_tail ha))))
    · exact h.keys a (.inr (.inr (.inr ha)))
theorem Ok.tailF {s : St} (h : Ok s) : Ok { s with woften := s.woften.tail } := by
  refine ⟨h.size, h.target, h.held, h.first, ?_, ?_, ?_, h.pinned⟩
  · have := h.all; show s.once.length + s.often.length + s.wonce.length + s.woften.tail.length ≤ 2 * s.size; rw [List.length_tail]; omega
  · intro a
    have := h.one a
    have h2 : s.woften.tail.count a ≤ s.woften.count a := (List.tail_sublist _).count_le a
    show s.once.count a + s.often.count a + s.wonce.count a + s.woften.tail.count a ≤ 1
    omega
  · intro a ha
    rcases ha with ha | ha | ha | ha
    · exact h.keys a (.inl ha)
    · exact h.keys a (.inr (.inl ha))
    · exact h.keys a (.inr (.inr (.inl ha)))
    · exact h.keys a (.inr (.inr (.inr (List.mem_of_mem_tail ha))))
theorem Ok.aim {s : St} (h : Ok s) (t : Nat) (ht : t ≤ s.size) : Ok { s with target := t } := ⟨h.size, ht, h.held, h.first, h.all, h.one, h.keys, h.pinned⟩

/-- what making room for a key that was never seen makes of a cache -/
structure AddOk (s t : St) (gn : Option K) : Prop where
  ok : Ok t
  held : t.once.length + t.often.length < s.size
  size : t.size = s.size
  target : t.target = s.target
  pins : t.pins = s.pins
  gone : ∀ g, gn = some g → s.pins g = 0 ∧ (g ∈ s.once ∨ g ∈ s.often) ∧ g ∉ t.once ∧ g ∉ t.often
  first : t.once.length + t.wonce.length < s.size
  all : t.once.length + t.often.length + t.wonce.length + t.woften.length < 2 * s.size
  stay : ∀ a, a ∈ t.once ∨ a ∈ t.often → a ∈ s.once ∨ a ∈ s.often
  keep : ∀ a, a ∈ s.once ∨ a ∈ s.often → gn ≠ some a → a ∈ t.once ∨ a ∈ t.often
  from_ : ∀ a, 1 ≤ t.once.count a + t.often.count a + t.wonce.count a + t.woften.count a → 1 ≤ s.once.count a + s.often.count a + s.wonce.count a + s.woften.count a

theorem roomS_from (s : St) (oft : Bool) (hfr : isFull s = true → (freeK s.pins s.once).isSome = true ∨ (freeK s.pins s.often).isSome = true) (a : K) :
    (roomS s oft).1.once.count a + (roomS s oft).1.often.count a + (roomS s oft).1.wonce.count a + (roomS s oft).1.woften.count a = s.once.count a + s.often.count a + s.wonce.count a + s.woften.count a := by
  rcases roomS_cases s oft hfr with ⟨_, e⟩ | ⟨k, hk, _, e⟩ | ⟨k, hk, _, e⟩
  · rw [e]
  · rw [e]
    have hc := count_pos hk
    show (s.once.erase k).count a + s.often.count a + (s.wonce ++ [k]).count a + s.woften.count a = _
    rw [cnt_erase, cnt_snoc]
    by_cases hka : k = a
    · subst hka; simp; omega
    · simp [hka]
  · rw [e]
    have hc := count_pos hk
    show s.once.count a + (s.often.erase k).count a + s.wonce.count a + (s.woften ++ [k]).count a = _
    rw [cnt_erase, cnt_snoc]
    by_cases hka : k = a
    · subst hka; simp; omega
    · simp [hka]

theorem addS_ok (s : St) (h : Ok s) (hfr : isFull s = true → (freeK s.pins s.once).isSome = true ∨ (freeK s.pins s.often).isSome = true) : AddOk s (addS s).1 (addS s).2 := by
  have h1 := h.held
  have h2 := h.first
  have h3 := h.all
  have h0 := h.size
  unfold addS
  by_cases c1 : s.once.length + s.wonce.length = s.size
  · rw [if_pos c1]
    by_cases c2 : s.once.length < s.size
    · rw [if_pos c2]
      have hw : 0 < s.wonce.length := by omega
      have hlt : s.wonce.tail.length + 1 = s.wonce.length := by rw [List.length_tail]; omega
      have r := roomS_ok { s with wonce := s.wonce.tail } false h.tailW hfr
      have rf := roomS_from { s with wonce := s.wonce.tail } false hfr
      have e1 := r.first
      have e2 := r.all
      refine ⟨r.ok, r.held, r.size, r.target, r.pins, r.gone, ?_, ?_, r.stay, r.keep, fun a ha => ?_⟩
      · have e1' : (roomS { s with wonce := s.wonce.tail } false).1.once.length + (roomS { s with wonce := s.wonce.tail } false).1.wonce.length ≤ s.once.length + s.wonce.tail.length := e1
        omega
      · have e2' : (roomS { s with wonce := s.wonce.tail } false).1.once.length + (roomS { s with wonce := s.wonce.tail } false).1.often.length + (roomS { s with wonce := s.wonce.tail } false).1.wonce.length + (roomS { s with wonce := s.wonce.tail } false).1.woften.length ≤ s.once.length + s.often.length + s.wonce.tail.length + s.woften.length := e2
        omega
      · rw [rf a] at ha
        have ha' : 1 ≤ s.once.count a + s.often.count a + s.wonce.tail.count a + s.woften.count a := ha
        have h4 : s.wonce.tail.count a ≤ s.wonce.count a := (List.tail_sublist _).count_le a
        omega
    · rw [if_neg c2]
      have ho : s.often = [] := List.eq_nil_of_length_eq_zero (by omega)
      have hw : s.wonce = [] := List.eq_nil_of_length_eq_zero (by omega)
      have hf : isFull s = true := by unfold isFull; simp [ho]; omega
      have hfo : freeK s.pins s.often = none := by rw [ho]; rfl
      have hso : (freeK s.pins s.once).isSome = true := by
        rcases hfr hf with hh | hh
        · exact hh
        · rw [hfo] at hh; cases hh
      obtain ⟨k, hk⟩ := Option.isSome_iff_exists.1 hso
      rw [hk]
      have hm := freeK_mem hk
      have hl := len_erase hm.1
      have hc := count_pos hm.1
      have hk1 := h.one k
      refine ⟨⟨h.size, h.target, ?_, ?_, ?_, ?_, ?_, ?_⟩, ?_, rfl, rfl, rfl, ?_, ?_, ?_, ?_, ?_, ?_⟩
      · show (s.once.erase k).length + s.often.length ≤ s.size; omega
      · show (s.once.erase k).length + s.wonce.length ≤ s.size; omega
      · show (s.once.erase k).length + s.often.length + s.wonce.length + s.woften.length ≤ 2 * s.size; omega
      · intro a
        have := h.one a
        show (s.once.erase k).count a + s.often.count a + s.wonce.count a + s.woften.count a ≤ 1
        rw [cnt_erase]; omega
      · intro a ha
        rcases ha with ha | ha | ha | ha
        · exact h.keys a (.inl (List.mem_of_mem_erase ha))
        · exact h.keys a (.inr (.inl ha))
        · exact h.keys a (.inr (.inr (.inl ha)))
        · exact h.keys a (.inr (.inr (.inr ha)))
      · intro a ha
        rcases h.pinned a ha with hh | hh
        · left
          refine (List.mem_erase_of_ne ?_).2 hh
          rintro rfl
          have : s.pins a = 0 := hm.2
          have h2 : 0 < s.pins a := ha
          omega
        · exact .inr hh
      · show (s.once.erase k).length + s.often.length < s.size; omega
      · intro g hg
        have hgk : k = g := by simpa using hg
        subst hgk
        refine ⟨hm.2, .inl hm.1, fun hx => ?_, fun hx => ?_⟩
        · have := count_pos (show k ∈ s.once.erase k from hx); rw [cnt_erase] at this; simp at this; omega
        · have := count_pos (show k ∈ s.often from hx); omega
      · show (s.once.erase k).length + s.wonce.length < s.size; omega
      · show (s.once.erase k).length + s.often.length + s.wonce.length + s.woften.length < 2 * s.size; omega
      · intro a ha
        rcases ha with ha | ha
        · exact .inl (List.mem_of_mem_erase ha)
        · exact .inr ha
      · intro a ha hne
        rcases ha with ha | ha
        · exact .inl ((List.mem_erase_of_ne (by rintro rfl; exact hne rfl)).2 ha)
        · exact .inr ha
      · intro a ha
        have ha' : 1 ≤ (s.once.erase k).count a + s.often.count a + s.wonce.count a + s.woften.count a := ha
        rw [cnt_erase] at ha'
        omega
  · rw [if_neg c1]
    by_cases c3 : s.once.length + s.often.length + s.wonce.length + s.woften.length < s.size
    · rw [if_pos c3]
      exact ⟨h, by show s.once.length + s.often.length < s.size; omega, rfl, rfl, rfl, fun g hg => by (simp at hg), by show s.once.length + s.wonce.length < s.size; omega,
        by show s.once.length + s.often.length + s.wonce.length + s.woften.length < 2 * s.size; omega, fun a ha => ha, fun a ha _ => ha, fun a ha => ha⟩
    · rw [if_neg c3]
      by_cases c4 : s.once.length + s.often.length + s.wonce.length + s.woften.length = 2 * s.size
      · rw [if_pos c4]
        have hlt : s.woften.tail.length + 1 = s.woften.length := by rw [List.length_tail]; omega
        have r := roomS_ok { s with woften := s.woften.tail } false h.tailF hfr
        have rf := roomS_from { s with woften := s.woften.tail } false hfr
        have e1 := r.first
        have e2 := r.all
        refine ⟨r.ok, r.held, r.size, r.target, r.pins, r.gone, ?_, ?_, r.stay, r.keep, fun a ha => ?_⟩
        · have e1' : (roomS { s with woften := s.woften.tail } false).1.once.length + (roomS { s with woften := s.woften.tail } false).1.wonce.length ≤ s.once.length + s.wonce.length := e1
          omega
        · have e2' : (roomS { s with woften := s.woften.tail } false).1.once.length + (roomS { s with woften := s.woften.tail } false).1.often.length + (roomS { s with woften := s.woften.tail } false).1.wonce.length + (roomS { s with woften := s.woften.tail } false).1.woften.length ≤ s.once.length + s.often.length + s.wonce.length + s.woften.tail.length := e2
          omega
        · rw [rf a] at ha
          have ha' : 1 ≤ s.once.count a + s.often.count a + s.wonce.count a + s.woften.tail.count a := ha
          have h4 : s.woften.tail.count a ≤ s.woften.count a := (List.tail_sublist _).count_le a
          omega
      · rw [if_neg c4]
        have r := roomS_ok s false h hfr
        have rf := roomS_from s false hfr
        have e1 := r.first
        have e2 := r.all
        refine ⟨r.ok, r.held, r.size, r.target, r.pins, r.gone, ?_, ?_, r.stay, r.keep, fun a ha => ?_⟩
        · omega
        · omega
        · rw [rf a] at ha
          exact ha

/-- what a touch makes of a cache -/
structure TouchOk (s : St) (k : K) (t : St) (hit : Bool) (gn : Option K) (e : Nat) : Prop where
  ok : Ok t
  size : t.size = s.size
  pins : t.pins = s.pins
  gone : ∀ g, gn = some g → s.pins g = 0 ∧ g ≠ k ∧ g ∉ t.once ∧ g ∉ t.often
  found : e = 0 → (hit = true ↔ (k ∈ s.once ∨ k ∈ s.often))
  here : e = 0 → k ∈ t.once ∨ k ∈ t.often
  err : e ≠ 0 → e = 13 ∧ t = s ∧ hit = false ∧ gn = none ∧ stuck s = true ∧ ¬ (k ∈ s.once ∨ k ∈ s.often)

theorem touch_hit (s : St) (k : K) (h : Ok s) (hk : k ∈ s.once ∨ k ∈ s.often) : Ok { s with once := s.once.erase k, often := s.often.erase k ++ [k] } := by
  have h1 := h.held
  have h2 := h.first
  have h3 := h.all
  have hk1 := h.one k
  have hlen : (s.once.erase k).length + (s.often.erase k ++ [k]).length = s.once.length + s.often.length ∧ (s.once.erase k).length ≤ s.once.length := by
    rcases hk with hm | hm
    · have hc := count_pos hm
      have hl := len_erase hm
      have hn : k ∉ s.often := fun hx => by have := count_pos hx; omega
      rw [List.erase_of_not_mem hn]
      simp; omega
    · have hc := count_pos hm
      have hl := len_erase hm
      have hn : k ∉ s.once := fun hx => by have := count_pos hx; omega
      rw [List.erase_of_not_mem hn]
      simp; omega
  refine ⟨h.size, h.target, ?_, ?_, ?_, ?_, ?_, ?_⟩
  · show (s.once.erase k).length + (s.often.erase k ++ [k]).length ≤ s.size; omega
  · show (s.once.erase k).length + s.wonce.length ≤ s.size; omega
  · show (s.once.erase k).length + (s.often.erase k ++ [k]).length + s.wonce.length + s.woften.length ≤ 2 * s.size; omega
  · intro a
    have := h.one a
    show (s.once.erase k).count a + (s.often.erase k ++ [k]).count a + s.wonce.count a + s.woften.count a ≤ 1
    rw [cnt_snoc, cnt_erase, cnt_erase]
    by_cases hka : k = a
    · subst hka
      rcases hk with hm | hm <;> (have hc := count_pos hm; simp; omega)
    · simp [hka]; omega
  · intro a ha
    rcases ha with ha | ha | ha | ha
    · exact h.keys a (.inl (List.mem_of_mem_erase ha))
    · rcases List.mem_append.1 ha with ha | ha
      · exact h.keys a (.inr (.inl (List.mem_of_mem_erase ha)))
      · simp at ha; subst ha
        exact h.keys _ (hk.elim .inl (fun x => .inr (.inl x)))
    · exact h.keys a (.inr (.inr (.inl ha)))
    · exact h.keys a (.inr (.inr (.inr ha)))
  · intro a ha
    by_cases hka : a = k
    · subst hka; right; simp
    · rcases h.pinned a ha with hh | hh
      · exact .inl ((List.mem_erase_of_ne hka).2 hh)
      · exact .inr (List.mem_append_left _ ((List.mem_erase_of_ne hka).2 hh))

theorem touch_wonce (s : St) (k : K) (h : Ok s) (hk : k ∈ s.wonce) (hlt : s.once.length + s.often.length < s.size) :
    Ok { s with wonce := s.wonce.erase k, often := s.often ++ [k] } := by
  have h2 := h.first
  have h3 := h.all
  have hl := len_erase hk
  have hc := count_pos hk
  have hk1 := h.one k
  refine ⟨h.size, h.target, ?_, ?_, ?_, ?_, ?_, ?_⟩
  · show s.once.length + (s.often ++ [k]).length ≤ s.size; simp; omega
  · show s.once.length + (s.wonce.erase k).length ≤ s.size; omega
  · show s.once.length + (s.often ++ [k]).length + (s.wonce.erase k).length + s.woften.length ≤ 2 * s.size; simp; omega
  · intro a
    have := h.one a
    show s.once.count a + (s.often ++ [k]).count a + (s.wonce.erase k).count a + s.woften.count a ≤ 1
    rw [cnt_snoc, cnt_erase]
    by_cases hka : k = a
    · subst hka; simp; omega
    · simp [hka]; omega
  · intro a ha
    rcases ha with ha | ha | ha | ha
    · exact h.keys a (.inl ha)
    · rcases List.mem_append.1 ha with ha | ha
      · exact h.keys a (.inr (.inl ha))
      · simp at ha; subst ha
        exact h.keys _ (.inr (.inr (.inl hk)))
    · exact h.keys a (.inr (.inr (.inl (List.mem_of_mem_erase ha))))
    · exact h.keys a (.inr (.inr (.inr ha)))
  · intro a ha
    rcases h.pinned a ha with hh | hh
    · exact .inl hh
    · exact .inr (List.mem_append_left _ hh)

theorem touch_woften (s : St) (k : K) (h : Ok s) (hk : k ∈ s.woften) (hlt : s.once.length + s.often.length < s.size) :
    Ok { s with woften := s.woften.erase k, often := s.often ++ [k] } := by
  have h2 := h.first
  have h3 := h.all
  have hl := len_erase hk
  have hc := count_pos hk
  have hk1 := h.one k
  refine ⟨h.size, h.target, ?_, h2, ?_, ?_, ?_, ?_⟩
  · show s.once.length + (s.often ++ [k]).length ≤ s.size; simp; omega
  · show s.once.length + (s.often ++ [k]).length + s.wonce.length + (s.woften.erase k).length ≤ 2 * s.size; simp; omega
  · intro a
    have := h.one a
    show s.once.count a + (s.often ++ [k]).count a + s.wonce.count a + (s.woften.erase k).count a ≤ 1
    rw [cnt_snoc, cnt_erase]
    by_cases hka : k = a
    · subst hka; simp; omega
    · simp [hka]; omega
  · intro a ha
    rcases ha with ha | ha | ha | ha
    · exact h.keys a (.inl ha)
    · rcases List.mem_append.1 ha with ha | ha
      · exact h.keys a (.inr (.inl ha))
      · simp at ha; subst ha
        exact h.keys _ (.inr (.inr (.inr hk)))
    · exact h.keys a (.inr (.inr (.inl ha)))
    · exact h.keys a (.inr (.inr (.inr (List.mem_of_mem_erase ha))))
  · intro a ha
    rcases h.pinned a ha with hh | hh
    · exact .inl hh
    · exact .inr (List.mem_append_left _ hh)

theorem touchS_ok (s : St) (k : K) (h : Ok s) (hk : ((Lit.int .i64 k).wf = true)) :
    TouchOk s k (touchS s k).1 (touchS s k).2.1 (touchS s k).2.2.1 (touchS s k).2.2.2 := by
  unfold touchS
  by_cases c1 : k ∈ s.once ∨ k ∈ s.often
  · rw [if_pos c1]
    refine ⟨touch_hit s k h c1, rfl, rfl, fun g hg => by (simp at hg), fun _ => ⟨fun _ => c1, fun _ => rfl⟩, fun _ => .inr ?_, fun hx => absurd rfl hx⟩
    show k ∈ s.often.erase k ++ [k]
    simp
  · rw [if_neg c1]
    have hn1 : k ∉ s.once := fun hx => c1 (.inl hx)
    have hn2 : k ∉ s.often := fun hx => c1 (.inr hx)
    have hg1 : ∀ g, g ∈ s.once ∨ g ∈ s.often → g ≠ k := fun g hg hx => c1 (hx ▸ hg)
    by_cases c2 : stuck s = true
    · rw [if_pos c2]
      exact ⟨h, rfl, rfl, fun g hg => by (simp at hg), fun hx => by (simp at hx), fun hx => by (simp at hx), fun _ => ⟨rfl, rfl, rfl, rfl, c2, c1⟩⟩
    · rw [if_neg c2]
      have hfr := not_stuck (by simpa using c2 : stuck s = false)
      have ht := h.target
      by_cases c3 : k ∈ s.wonce
      · rw [if_pos c3]
        have hu : Ok (upS s) := h.aim _ (Nat.min_le_left _ _)
        have r := roomS_ok (upS s) false hu hfr
        generalize roomS (upS s) false = q at r
        obtain ⟨t, gn⟩ := q
        dsimp only at r ⊢
        have hw : k ∈ t.wonce := r.wonce k c3
        have hlt : t.once.length + t.often.length < t.size := by rw [r.size]; exact r.held
        refine ⟨touch_wonce t k r.ok hw hlt, r.size, r.pins, ?_, fun _ => ⟨fun hx => by (simp at hx), fun hx => absurd hx c1⟩, fun _ => .inr ?_, fun hx => absurd rfl hx⟩
        · intro g hg
          obtain ⟨g1, g2, g3, g4⟩ := r.gone g hg
          have gk := hg1 g g2
          refine ⟨g1, gk, g3, fun hx => ?_⟩
          rcases List.mem_append.1 (show g ∈ t.often ++ [k] from hx) with hx | hx
          · exact g4 hx
          · simp at hx; exact gk hx
        · show k ∈ t.often ++ [k]
          simp
      · rw [if_neg c3]
        by_cases c4 : k ∈ s.woften
        · rw [if_pos c4]
          have hu : Ok (downS s) := h.aim _ (Nat.le_trans (Nat.sub_le _ _) ht)
          have r := roomS_ok (downS s) true hu hfr
          generalize roomS (downS s) true = q at r
          obtain ⟨t, gn⟩ := q
          dsimp only at r ⊢
          have hw : k ∈ t.woften := r.woften k c4
          have hlt : t.once.length + t.often.length < t.size := by rw [r.size]; exact r.held
          refine ⟨touch_woften t k r.ok hw hlt, r.size, r.pins, ?_, fun _ => ⟨fun hx => by (simp at hx), fun hx => absurd hx c1⟩, fun _ => .inr ?_, fun hx => absurd rfl hx⟩
          · intro g hg
            obtain ⟨g1, g2, g3, g4⟩ := r.gone g hg
            have gk := hg1 g g2
            refine ⟨g1, gk, g3, fun hx => ?_⟩
            rcases List.mem_append.1 (show g ∈ t.often ++ [k] from hx) with hx | hx
            · exact g4 hx
            · simp at hx; exact gk hx
          · show k ∈ t.often ++ [k]
            simp
        · rw [if_neg c4]
          have r := addS_ok s h hfr
          generalize addS s = q at r
          obtain ⟨t, gn⟩ := q
          dsimp only at r ⊢
          have hz : t.once.count k + t.often.count k + t.wonce.count k + t.woften.count k = 0 := by
            rcases Nat.eq_zero_or_pos (t.once.count k + t.often.count k + t.wonce.count k + t.woften.count k) with hz | hz
            · exact hz
            · have hf := r.from_ k hz
              have z1 := List.count_eq_zero.2 hn1
              have z2 := List.count_eq_zero.2 hn2
              have z3 := List.count_eq_zero.2 c3
              have z4 := List.count_eq_zero.2 c4
              omega
          have e0 := r.held
          have e1 := r.first
          have e2 := r.all
          have e3 := r.size
          refine ⟨⟨r.ok.size, r.ok.target, ?_, ?_, ?_, ?_, ?_, ?_⟩, r.size, r.pins, ?_, fun _ => ⟨fun hx => by (simp at hx), fun hx => absurd hx c1⟩, fun _ => .inl ?_, fun hx => absurd rfl hx⟩
          · show (t.once ++ [k]).length + t.often.length ≤ t.size; simp; omega
          · show (t.once ++ [k]).length + t.wonce.length ≤ t.size; simp; omega
          · show (t.once ++ [k]).length + t.often.length + t.wonce.length + t.woften.length ≤ 2 * t.size; simp; omega
          · intro a
            have := r.ok.one a
            show (t.once ++ [k]).count a + t.often.count a + t.wonce.count a + t.woften.count a ≤ 1
            rw [cnt_snoc]
            by_cases hka : k = a
            · subst hka; simp; omega
            · simp [hka]; omega
          · intro a ha
            rcases ha with ha | ha | ha | ha
            · rcases List.mem_append.1 ha with ha | ha
              · exact r.ok.keys a (.inl ha)
              · simp at ha; subst ha; exact hk
            · exact r.ok.keys a (.inr (.inl ha))
            · exact r.ok.keys a (.inr (.inr (.inl ha)))
            · exact r.ok.keys a (.inr (.inr (.inr ha)))
          · intro a ha
            rcases r.ok.pinned a ha with hh | hh
            · exact .inl (List.mem_append_left _ hh)
            · exact .inr hh
          · intro g hg
            obtain ⟨g1, g2, g3, g4⟩ := r.gone g hg
            have gk := hg1 g g2
            refine ⟨g1, gk, fun hx => ?_, g4⟩
            rcases List.mem_append.1 (show g ∈ t.once ++ [k] from hx) with hx | hx
            · exact g3 hx
            · simp at hx; exact gk hx
          · show k ∈ t.once ++ [k]
            simp

/-- a pin more, a pin less, a key forgotten -/
def pinS (s : St) (k : K) : St := { s with pins := fun a => if a = k then s.pins k + 1 else s.pins a }
def unpinS (s : St) (k : K) : St := { s with pins := fun a => if a = k then s.pins k - 1 else s.pins a }
def dropS (s : St) (k : K) : St := { s with once := s.once.erase k, often := s.often.erase k, wonce := s.wonce.erase k, woften := s.woften.erase k }

theorem pinS_ok (s : St) (k : K) (h : Ok s) (hk : k ∈ s.once ∨ k ∈ s.often) : Ok (pinS s k) := by
  refine ⟨h.size, h.target, h.held, h.first, h.all, h.one, h.keys, fun a ha => ?_⟩
  by_cases hka : a = k
  · subst hka; exact hk
  · refine h.pinned a ?_
    have ha' : 0 < (if a = k then s.pins k + 1 else s.pins a) := ha
    rw [if_neg hka] at ha'
    exact ha'

theorem unpinS_ok (s : St) (k : K) (h : Ok s) (hk : k ∈ s.once ∨ k ∈ s.often) : Ok (unpinS s k) := by
  refine ⟨h.size, h.target, h.held, h.first, h.all, h.one, h.keys, fun a ha => ?_⟩
  by_cases hka : a = k
  · subst hka; exact hk
  · refine h.pinned a ?_
    have ha' : 0 < (if a = k then s.pins k - 1 else s.pins a) := ha
    rw [if_neg hka] at ha'
    exact ha'

theorem len_erase_le (a : K) (l : List K) : (l.erase a).length ≤ l.length := List.length_erase_le

theorem dropS_ok (s : St) (k : K) (h : Ok s) (hp : s.pins k = 0) : Ok (dropS s k) := by
  have h1 := h.held
  have h2 := h.first
  have h3 := h.all
  have l1 := len_erase_le k s.once
  have l2 := len_erase_le k s.often
  have l3 := len_erase_le k s.wonce
  have l4 := len_erase_le k s.woften
  refine ⟨h.size, h.target, ?_, ?_, ?_, ?_, ?_, ?_⟩
  · show (s.once.erase k).length + (s.often.erase k).length ≤ s.size; omega
  · show (s.once.erase k).length + (s.wonce.erase k).length ≤ s.size; omega
  · show (s.once.erase k).length + (s.often.erase k).length + (s.wonce.erase k).length + (s.woften.erase k).length ≤ 2 * s.size; omega
  · intro a
    have := h.one a
    show (s.once.erase k).count a + (s.often.erase k).count a + (s.wonce.erase k).count a + (s.woften.erase k).count a ≤ 1
    rw [cnt_erase, cnt_erase, cnt_erase, cnt_erase]; omega
  · intro a ha
    rcases ha with ha | ha | ha | ha
    · exact h.keys a (.inl (List.mem_of_mem_erase ha))
    · exact h.keys a (.inr (.inl (List.mem_of_mem_erase ha)))
    · exact h.keys a (.inr (.inr (.inl (List.mem_of_mem_erase ha))))
    · exact h.keys a (.inr (.inr (.inr (List.mem_of_mem_erase ha))))
  · intro a ha
    have hka : a ≠ k := by
      rintro rfl
      have ha' : 0 < s.pins a := ha
      omega
    rcases h.pinned a ha with hh | hh
    · exact .inl ((List.mem_erase_of_ne hka).2 hh)
    · exact .inr ((List.mem_erase_of_ne hka).2 hh)

/-- how many of a list's keys are pinned -/
theorem free_none {s : St} (h : stuck s = true) : ∀ a, a ∈ s.once ∨ a ∈ s.often → 0 < s.pins a := by
  unfold stuck at h
  simp only [Bool.and_eq_true, Bool.not_eq_true'] at h
  obtain ⟨⟨_, h1⟩, h2⟩ := h
  have none_of : ∀ (l : List K), (freeK s.pins l).isSome = false → ∀ a, a ∈ l → 0 < s.pins a := by
    intro l hl a ha
    rcases Nat.eq_zero_or_pos (s.pins a) with hz | hz
    · exfalso
      have : (freeK s.pins l).isSome = true := by
        unfold freeK
        rw [List.find?_isSome]
        exact ⟨a, ha, by simp [hz]⟩
      rw [hl] at this; cases this
    · exact hz
  intro a ha
  rcases ha with ha | ha
  · exact none_of _ h1 a ha
  · exact none_of _ h2 a ha

end Go.Proofs.YtbgbomlmgkgkoaaGreat.arcI
