/- A cache of numbers and one of their names go side by side. No program in sight. -/
import Derived.Test.YthcdfdkhmlkneaaDoorArcVdI
import Derived.Test.YthcdfdkhmlkneaaDoorArcVdS
import Derived.Lib.ItoaLen
import Derived.WalkArith
namespace Go.Proofs.YthcdfdkhmlkneaaDoor.arcN

section
variable {nm : Int → List UInt8}
abbrev Inj (nm : Int → List UInt8) : Prop := ∀ a b, nm a = nm b → a = b

theorem mem_nm (hi : Inj nm) {k : Int} {l : List Int} : nm k ∈ l.map nm ↔ k ∈ l := by
  rw [List.mem_map]
  constructor
  · rintro ⟨a, ha, he⟩
    rw [← hi a k he]; exact ha
  · exact fun h => ⟨k, h, rfl⟩
theorem erase_nm (hi : Inj nm) (k : Int) : ∀ l : List Int, (l.map nm).erase (nm k) = (l.erase k).map nm
  | [] => rfl
  | a :: l => by
    rw [List.map_cons, List.erase_cons, List.erase_cons]
    by_cases h : a = k
    · subst h; simp
    · have h1 : (nm a == nm k) = false := beq_eq_false_iff_ne.2 fun e => h (hi _ _ e)
      have h2 : (a == k) = false := beq_eq_false_iff_ne.2 h
      rw [h1, h2]
      simp [erase_nm hi k l]

/-- side by side -/
structure Rl (nm : Int → List UInt8) (s : arcI.St) (t : arcS.St) : Prop where
  size : t.size = s.size
  once : t.once = s.once.map nm
  often : t.often = s.often.map nm
  wonce : t.wonce = s.wonce.map nm
  woften : t.woften = s.woften.map nm
  target : t.target = s.target
  pins : ∀ k, t.pins (nm k) = s.pins k

theorem free_nm {p : Int → Nat} {q : List UInt8 → Nat} (h : ∀ k, q (nm k) = p k) : ∀ l : List Int, arcS.freeK q (l.map nm) = (arcI.freeK p l).map nm
  | [] => rfl
  | a :: l => by
    rw [List.map_cons, arcS.freeK_cons, arcI.freeK_cons, h a, free_nm h l]
    split <;> rfl
theorem free_some {p : Int → Nat} {q : List UInt8 → Nat} (h : ∀ k, q (nm k) = p k) (l : List Int) : (arcS.freeK q (l.map nm)).isSome = (arcI.freeK p l).isSome := by
  rw [free_nm h]; cases arcI.freeK p l <;> rfl

theorem Rl.full {s : arcI.St} {t : arcS.St} (h : Rl nm s t) : arcS.isFull t = arcI.isFull s := by
  unfold arcS.isFull arcI.isFull
  rw [h.once, h.often, h.size]
  simp
theorem Rl.pick {s : arcI.St} {t : arcS.St} (h : Rl nm s t) (oft : Bool) : arcS.pickOnce t oft = arcI.pickOnce s oft := by
  have hf : arcS.firstOf t oft = arcI.firstOf s oft := by
    unfold arcS.firstOf arcI.firstOf
    rw [h.once, h.target]
    simp
  unfold arcS.pickOnce arcI.pickOnce
  rw [hf, h.once, h.often, free_some h.pins, free_some h.pins]
theorem Rl.room (hi : Inj nm) {s : arcI.St} {t : arcS.St} (h : Rl nm s t) (oft : Bool) : Rl nm (arcI.roomS s oft).1 (arcS.roomS t oft).1 ∧ (arcS.roomS t oft).2 = (arcI.roomS s oft).2.map nm := by
  unfold arcS.roomS arcI.roomS
  rw [h.full, h.pick oft]
  split
  · exact ⟨h, rfl⟩
  · split
    · rw [h.once, free_nm h.pins]
      cases arcI.freeK s.pins s.once with
      | none => exact ⟨h, rfl⟩
      | some k => exact ⟨⟨h.size, by simp [erase_nm hi], h.often, by simp [h.wonce], h.woften, h.target, h.pins⟩, rfl⟩
    · rw [h.often, free_nm h.pins]
      cases arcI.freeK s.pins s.often with
      | none => exact ⟨h, rfl⟩
      | some k => exact ⟨⟨h.size, h.once, by simp [erase_nm hi], h.wonce, by simp [h.woften], h.target, h.pins⟩, rfl⟩
theorem Rl.add (hi : Inj nm) {s : arcI.St} {t : arcS.St} (h : Rl nm s t) : Rl nm (arcI.addS s).1 (arcS.addS t).1 ∧ (arcS.addS t).2 = (arcI.addS s).2.map nm := by
  obtain ⟨z, o1, o2, w1, w2, tg, q⟩ := t
  obtain ⟨e1, e2, e3, e4, e5, e6, hp⟩ := h
  simp only at e1 e2 e3 e4 e5 e6 hp
  subst e1; subst e2; subst e3; subst e4; subst e5; subst e6
  have R : ∀ l m : List Int, Rl nm { s with wonce := l, woften := m } ⟨s.size, s.once.map nm, s.often.map nm, l.map nm, m.map nm, s.target, q⟩ := fun l m => ⟨rfl, rfl, rfl, rfl, rfl, rfl, hp⟩
  have h : Rl nm s ⟨s.size, s.once.map nm, s.often.map nm, s.wonce.map nm, s.woften.map nm, s.target, q⟩ := ⟨rfl, rfl, rfl, rfl, rfl, rfl, hp⟩
  unfold arcS.addS arcI.addS
  simp only [List.length_map]
  split
  · split
    · have := (R s.wonce.tail s.woften).room hi false
      rw [List.map_tail] at this
      exact this
    · rw [free_nm hp]
      cases arcI.freeK s.pins s.once with
      | none => exact ⟨h, rfl⟩
      | some k => exact ⟨⟨rfl, by simp [erase_nm hi], rfl, rfl, rfl, rfl, hp⟩, rfl⟩
  · split
    · exact ⟨h, rfl⟩
    · split
      · have := (R s.wonce s.woften.tail).room hi false
        rw [List.map_tail] at this
        exact this
      · exact h.room hi false
theorem Rl.stuck {s : arcI.St} {t : arcS.St} (h : Rl nm s t) : arcS.stuck t = arcI.stuck s := by
  unfold arcS.stuck arcI.stuck
  rw [h.full, h.once, h.often, free_some h.pins, free_some h.pins]
theorem Rl.up {s : arcI.St} {t : arcS.St} (h : Rl nm s t) : Rl nm (arcI.upS s) (arcS.upS t) := by
  refine ⟨h.size, h.once, h.often, h.wonce, h.woften, ?_, h.pins⟩
  unfold arcS.upS arcI.upS
  simp only [h.size, h.target, h.wonce, h.woften, List.length_map]
theorem Rl.down {s : arcI.St} {t : arcS.St} (h : Rl nm s t) : Rl nm (arcI.downS s) (arcS.downS t) := by
  refine ⟨h.size, h.once, h.often, h.wonce, h.woften, ?_, h.pins⟩
  unfold arcS.downS arcI.downS
  simp only [h.target, h.wonce, h.woften, List.length_map]

theorem Rl.touch (hi : Inj nm) {s : arcI.St} {t : arcS.St} (h : Rl nm s t) (k : Int) :
    Rl nm (arcI.touchS s k).1 (arcS.touchS t (nm k)).1 ∧ (arcS.touchS t (nm k)).2.1 = (arcI.touchS s k).2.1 ∧ (arcS.touchS t (nm k)).2.2.1 = (arcI.touchS s k).2.2.1.map nm ∧ (arcS.touchS t (nm k)).2.2.2 = (arcI.touchS s k).2.2.2 := by
  have m1 : (nm k ∈ t.once) = (k ∈ s.once) := by rw [h.once]; exact propext (mem_nm hi)
  have m2 : (nm k ∈ t.often) = (k ∈ s.often) := by rw [h.often]; exact propext (mem_nm hi)
  have m3 : (nm k ∈ t.wonce) = (k ∈ s.wonce) := by rw [h.wonce]; exact propext (mem_nm hi)
  have m4 : (nm k ∈ t.woften) = (k ∈ s.woften) := by rw [h.woften]; exact propext (mem_nm hi)
  unfold arcS.touchS arcI.touchS
  simp only [m1, m2, m3, m4, h.stuck]
  split
  · exact ⟨⟨h.size, by simp [h.once, erase_nm hi], by simp [h.often, erase_nm hi], h.wonce, h.woften, h.target, h.pins⟩, rfl, rfl, rfl⟩
  · split
    · exact ⟨h, rfl, rfl, rfl⟩
    · split
      · obtain ⟨g1, g2⟩ := h.up.room hi false
        exact ⟨⟨g1.size, g1.once, by simp [g1.often], by simp [g1.wonce, erase_nm hi], g1.woften, g1.target, g1.pins⟩, rfl, g2, rfl⟩
      · split
        · obtain ⟨g1, g2⟩ := h.down.room hi true
          exact ⟨⟨g1.size, g1.once, by simp [g1.often], g1.wonce, by simp [g1.woften, erase_nm hi], g1.target, g1.pins⟩, rfl, g2, rfl⟩
        · obtain ⟨g1, g2⟩ := h.add hi
          exact ⟨⟨g1.size, by simp [g1.once], g1.often, g1.wonce, g1.woften, g1.target, g1.pins⟩, rfl, g2, rfl⟩
theorem Rl.pinOf (hi : Inj nm) {s : arcI.St} {t : arcS.St} (h : Rl nm s t) (k : Int) (v : Nat) :
    Rl nm { s with pins := fun a => if a = k then v else s.pins a } { t with pins := fun a => if a = nm k then v else t.pins a } := by
  refine ⟨h.size, h.once, h.often, h.wonce, h.woften, h.target, fun a => ?_⟩
  by_cases ha : a = k
  · subst ha; simp
  · have : nm a ≠ nm k := fun e => ha (hi _ _ e)
    simp [ha, this, h.pins]
theorem Rl.pin (hi : Inj nm) {s : arcI.St} {t : arcS.St} (h : Rl nm s t) (k : Int) : Rl nm (arcI.pinR s k).1 (arcS.pinR t (nm k)).1 ∧ (arcS.pinR t (nm k)).2 = (arcI.pinR s k).2 := by
  have m1 : (nm k ∈ t.once) = (k ∈ s.once) := by rw [h.once]; exact propext (mem_nm hi)
  have m2 : (nm k ∈ t.often) = (k ∈ s.often) := by rw [h.often]; exact propext (mem_nm hi)
  unfold arcS.pinR arcI.pinR
  simp only [m1, m2]
  split
  · refine ⟨?_, rfl⟩
    unfold arcS.pinS arcI.pinS
    rw [h.pins]
    exact h.pinOf hi k _
  · exact ⟨h, rfl⟩
theorem Rl.unpin (hi : Inj nm) {s : arcI.St} {t : arcS.St} (h : Rl nm s t) (k : Int) : Rl nm (arcI.unpinR s k).1 (arcS.unpinR t (nm k)).1 ∧ (arcS.unpinR t (nm k)).2 = (arcI.unpinR s k).2 := by
  have m1 : (nm k ∈ t.once) = (k ∈ s.once) := by rw [h.once]; exact propext (mem_nm hi)
  have m2 : (nm k ∈ t.often) = (k ∈ s.often) := by rw [h.often]; exact propext (mem_nm hi)
  unfold arcS.unpinR arcI.unpinR
  simp only [m1, m2, h.pins]
  split
  · split
    · exact ⟨h, rfl⟩
    · refine ⟨?_, rfl⟩
      unfold arcS.unpinS arcI.unpinS
      rw [h.pins]
      exact h.pinOf hi k _
  · exact ⟨h, rfl⟩
theorem Rl.drop (hi : Inj nm) {s : arcI.St} {t : arcS.St} (h : Rl nm s t) (k : Int) : Rl nm (arcI.dropR s k).1 (arcS.dropR t (nm k)).1 ∧ (arcS.dropR t (nm k)).2 = (arcI.dropR s k).2 := by
  have m1 : (nm k ∈ t.once) = (k ∈ s.once) := by rw [h.once]; exact propext (mem_nm hi)
  have m2 : (nm k ∈ t.often) = (k ∈ s.often) := by rw [h.often]; exact propext (mem_nm hi)
  have m3 : (nm k ∈ t.wonce) = (k ∈ s.wonce) := by rw [h.wonce]; exact propext (mem_nm hi)
  have m4 : (nm k ∈ t.woften) = (k ∈ s.woften) := by rw [h.woften]; exact propext (mem_nm hi)
  unfold arcS.dropR arcI.dropR
  simp only [m1, m2, m3, m4, h.pins]
  split
  · split
    · exact ⟨h, rfl⟩
    · exact ⟨⟨h.size, by simp [arcS.dropS, arcI.dropS, h.once, erase_nm hi], by simp [arcS.dropS, arcI.dropS, h.often, erase_nm hi], by simp [arcS.dropS, arcI.dropS, h.wonce, erase_nm hi], by simp [arcS.dropS, arcI.dropS, h.woften, erase_nm hi], h.target, h.pins⟩, rfl⟩
  · exact ⟨h, rfl⟩
theorem Rl.new (n : Nat) : Rl nm (arcI.newS n) (arcS.newS n) := ⟨rfl, rfl, rfl, rfl, rfl, rfl, fun _ => rfl⟩
end

/-! ### a number's name -/
def val (l : List UInt8) : Nat := l.foldl (fun a c => a * 10 + (c.toNat - 48)) 0
theorem val_dec (u : Nat) : val (Lib.decDigits u) = u ∧ ∀ c ∈ Lib.decDigits u, 48 ≤ c.toNat := by
  induction u using Nat.strongRecOn with
  | ind u ih =>
    rw [Lib.decDigits]
    by_cases h : u < 10
    · rw [dif_pos h]
      have e : (UInt8.ofNat (48 + u)).toNat = 48 + u := by simp; omega
      refine ⟨?_, fun c hc => ?_⟩
      · simp only [val, List.foldl_cons, List.foldl_nil]
        rw [e]; omega
      · rw [List.mem_singleton] at hc
        subst hc
        rw [e]; omega
    · rw [dif_neg h]
      obtain ⟨h1, h2⟩ := ih (u / 10) (by omega)
      have e : (UInt8.ofNat (48 + u % 10)).toNat = 48 + u % 10 := by simp; omega
      refine ⟨?_, fun c hc => ?_⟩
      · unfold val at h1 ⊢
        rw [List.foldl_append, h1]
        simp only [List.foldl_cons, List.foldl_nil]
        rw [e]; omega
      · rcases List.mem_append.1 hc with hc | hc
        · exact h2 c hc
        · rw [List.mem_singleton] at hc
          subst hc
          rw [e]; omega
theorem dec_inj {a b : Nat} (h : Lib.decDigits a = Lib.decDigits b) : a = b := by rw [← (val_dec a).1, ← (val_dec b).1, h]
theorem dec_minus {u : Nat} {l : List UInt8} (h : 45 :: l = Lib.decDigits u) : False := by
  have := (val_dec u).2 45 (by rw [← h]; exact List.mem_cons_self)
  exact absurd this (by decide)
theorem itoa_inj (a b : Int) (h : Lib.itoa a = Lib.itoa b) : a = b := by
  unfold Lib.itoa at h
  by_cases ha : a < 0 <;> by_cases hb : b < 0
  · rw [if_pos ha, if_pos hb] at h
    injection h with _ h
    have := dec_inj h
    omega
  · rw [if_pos ha, if_neg hb] at h
    exact (dec_minus h).elim
  · rw [if_neg ha, if_pos hb] at h
    exact (dec_minus h.symm).elim
  · rw [if_neg ha, if_neg hb] at h
    have := dec_inj h
    omega
def nm (k : Int) : List UInt8 := 120 :: Lib.itoa k
theorem nm_inj : Inj nm := fun a b h => by
  injection h with _ h
  exact itoa_inj a b h
theorem nm_len (k : Int) (h : (Lit.int .i64 k).wf = true) : List.length (nm k) ≤ maxLen := by
  have hw : -9223372036854775808 ≤ k ∧ k ≤ 9223372036854775807 := by
    simp [Lit.wf, IntKind.min, IntKind.max, IntKind.signed, IntKind.bits] at h
    omega
  have := Lib.itoa_length_le k (by omega) (by omega)
  simp only [nm, List.length_cons, maxLen]
  omega
end Go.Proofs.YthcdfdkhmlkneaaDoor.arcN
