/- Statement ArcBounded: the plain law of one call: what the law looks at behind each. -/
import Derived.Test.YtbgbomlmgkgkoaaGreatArcB1
namespace Go.Proofs.YtbgbomlmgkgkoaaGreat.arcI
open Go.RowKit Go.Proofs.YtbgbomlmgkgkoaaGreat.own

/-- what the law's own map of pins holds behind a call -/
def pinU1 (p : K → Nat) (kind : Int) (k : K) (er : Nat) : K → Nat := if kind = 1 ∧ er = 0 then upd p k (p k + 1) else p
def pinU2 (p : K → Nat) (kind : Int) (k : K) (er : Nat) : K → Nat := if kind = 2 ∧ er = 0 then upd p k (p k - 1) else p

structure StepOk (s : St) (kind : Int) (k : K) (t : St) (hit : Bool) (gn : Option K) (er : Nat) : Prop where
  ok : Ok t
  size : t.size = s.size
  pins : t.pins = pinU2 (pinU1 s.pins kind k er) kind k er
  pos : kind = 2 → er = 0 → 0 < s.pins k
  gone : ∀ g, gn = some g → t.pins g = 0 ∧ g ≠ k ∧ g ∉ t.once ∧ g ∉ t.often
  k0 : kind = 0 → er = 0 → (k ∈ t.once ∨ k ∈ t.often) ∧ hit = decide (k ∈ s.once ∨ k ∈ s.often)
  k13 : kind = 0 → er ≠ 0 → er = 13 ∧ ¬ (k ∈ s.once ∨ k ∈ s.often) ∧ cntP t t.once.reverse + cntP t t.often.reverse = s.size
  er : er ≤ 16
  goneKey : ∀ g, gn = some g → (Lit.int .i64 g).wf = true

theorem pins_same {p : K → Nat} {kind : Int} {k : K} {er : Nat} (h1 : ¬ (kind = 1 ∧ er = 0)) (h2 : ¬ (kind = 2 ∧ er = 0)) : pinU2 (pinU1 p kind k er) kind k er = p := by
  unfold pinU2 pinU1
  rw [if_neg h1, if_neg h2]

theorem step_plain {s : St} {kind : Int} {k : K} {er : Nat} (ok : Ok s) (h0 : kind ≠ 0) (h1 : ¬ (kind = 1 ∧ er = 0)) (h2 : ¬ (kind = 2 ∧ er = 0)) (he : er ≤ 16) : StepOk s kind k s false none er :=
  ⟨ok, rfl, (pins_same h1 h2).symm, fun a b => absurd ⟨a, b⟩ h2, fun g hg => (by cases hg), fun a => absurd a h0, fun a => absurd a h0, he, fun g hg => (by cases hg)⟩

theorem touch_gone (s : St) (k : K) (ok : Ok s) : ∀ g, (touchS s k).2.2.1 = some g → (Lit.int .i64 g).wf = true := by
  intro g hg
  have key : ∀ a, (a ∈ s.once ∨ a ∈ s.often) → (Lit.int .i64 a).wf = true := fun a ha => ok.keys a (ha.elim .inl (fun x => .inr (.inl x)))
  unfold touchS at hg
  by_cases c1 : k ∈ s.once ∨ k ∈ s.often
  · rw [if_pos c1] at hg; cases hg
  · rw [if_neg c1] at hg
    by_cases c2 : stuck s = true
    · rw [if_pos c2] at hg; cases hg
    · rw [if_neg c2] at hg
      have c3 : stuck s = false := by simpa using c2
      by_cases c4 : k ∈ s.wonce
      · rw [if_pos c4] at hg
        have r := roomS_ok (upS s) false (ok.aim _ (by show min s.size _ ≤ s.size; omega)) (not_stuck c3)
        exact key g (r.gone g hg).2.1
      · rw [if_neg c4] at hg
        by_cases c5 : k ∈ s.woften
        · rw [if_pos c5] at hg
          have r := roomS_ok (downS s) true (ok.aim _ (by have := ok.target; show s.target - _ ≤ s.size; omega)) (not_stuck c3)
          exact key g (r.gone g hg).2.1
        · rw [if_neg c5] at hg
          exact key g ((addS_ok s ok (not_stuck c3)).gone g hg).2.1

theorem run_ok (s : St) (kind : Int) (k : K) (hok : (Lit.int .i64 k).wf = true) (ok : Ok s) :
    StepOk s kind k (runS s kind k).1 (runS s kind k).2.1 (runS s kind k).2.2.1 (runS s kind k).2.2.2 := by
  unfold runS
  by_cases h0 : kind = 0
  · rw [if_pos h0]
    have t := touchS_ok s k ok hok
    have tg := touch_gone s k ok
    generalize touchS s k = r at t tg ⊢
    obtain ⟨t', hit, gn, er⟩ := r
    have h1 : ¬ (kind = 1 ∧ er = 0) := fun h => by omega
    have h2 : ¬ (kind = 2 ∧ er = 0) := fun h => by omega
    have tp : t'.pins = s.pins := t.pins
    refine ⟨t.ok, t.size, by rw [pins_same h1 h2]; exact tp, fun a => by omega, fun g hg => ?_, fun _ he => ⟨t.here he, ?_⟩, fun _ he => ?_, ?_, fun g hg => tg g hg⟩
    · have := t.gone g hg
      exact ⟨by show t'.pins g = 0; rw [tp]; exact this.1, this.2.1, this.2.2.1, this.2.2.2⟩
    · have := t.found he
      show hit = _
      by_cases hk : k ∈ s.once ∨ k ∈ s.often
      · rw [decide_eq_true hk]; exact this.2 hk
      · rw [decide_eq_false hk]
        cases hit with
        | true => exact absurd (this.1 rfl) hk
        | false => rfl
    · obtain ⟨a, b, _, _, c, d⟩ := t.err he
      have bb : t' = s := b
      subst bb
      refine ⟨a, d, ?_⟩
      have hp := free_none c
      rw [cntP_all (fun a ha => hp a (.inl (List.mem_reverse.1 ha))), cntP_all (fun a ha => hp a (.inr (List.mem_reverse.1 ha)))]
      have hf : isFull t' = true := by unfold stuck at c; simp only [Bool.and_eq_true] at c; exact c.1.1
      simpa [isFull] using hf
    · show er ≤ 16
      by_cases he : er = 0
      · omega
      · have e13 : er = 13 := (t.err he).1
        omega
  · rw [if_neg h0]
    by_cases h1 : kind = 1
    · rw [if_pos h1]
      unfold pinR
      by_cases hk : k ∈ s.once ∨ k ∈ s.often
      · rw [if_pos hk]
        refine ⟨pinS_ok s k ok hk, rfl, ?_, fun a => by omega, fun g hg => (by cases hg), fun a => absurd a h0, fun a => absurd a h0, Nat.zero_le _, fun g hg => (by cases hg)⟩
        unfold pinU2 pinU1
        rw [if_neg (by omega), if_pos ⟨h1, rfl⟩]
        rfl
      · rw [if_neg hk]
        exact step_plain (er := 6) ok h0 (fun h => by omega) (fun h => by omega) (by omega)
    · rw [if_neg h1]
      by_cases h2 : kind = 2
      · rw [if_pos h2]
        unfold unpinR
        by_cases hk : k ∈ s.once ∨ k ∈ s.often
        · rw [if_pos hk]
          by_cases hz : s.pins k = 0
          · rw [if_pos hz]
            exact step_plain (er := 16) ok h0 (fun h => by omega) (fun h => by omega) (by omega)
          · rw [if_neg hz]
            refine ⟨unpinS_ok s k ok hk, rfl, ?_, fun _ _ => by omega, fun g hg => (by cases hg), fun a => absurd a h0, fun a => absurd a h0, Nat.zero_le _, fun g hg => (by cases hg)⟩
            unfold pinU2 pinU1
            rw [if_pos ⟨h2, rfl⟩, if_neg (by omega)]
            rfl
        · rw [if_neg hk]
          exact step_plain (er := 6) ok h0 (fun h => by omega) (fun h => by omega) (by omega)
      · rw [if_neg h2]
        by_cases h3 : kind = 3
        · rw [if_pos h3]
          unfold dropR
          by_cases hk : k ∈ s.once ∨ k ∈ s.often ∨ k ∈ s.wonce ∨ k ∈ s.woften
          · rw [if_pos hk]
            by_cases hz : 0 < s.pins k
            · rw [if_pos hz]
              exact step_plain (er := 16) ok h0 (fun h => by omega) (fun h => by omega) (by omega)
            · rw [if_neg hz]
              exact ⟨dropS_ok s k ok (by omega), rfl, by rw [pins_same (fun h => by omega) (fun h => by omega)]; rfl, fun a => by omega, fun g hg => (by cases hg), fun a => absurd a h0, fun a => absurd a h0, Nat.zero_le _, fun g hg => (by cases hg)⟩
          · rw [if_neg hk]
            exact step_plain (er := 6) ok h0 (fun h => by omega) (fun h => by omega) (by omega)
        · rw [if_neg h3]
          exact step_plain (er := 0) ok h0 (fun h => by omega) (fun h => by omega) (by omega)

theorem step_bound {p : K → Nat} {i : Nat} (h : ∀ a, p a ≤ i) (kind : Int) (k : K) (er : Nat) : ∀ a, pinU2 (pinU1 p kind k er) kind k er a ≤ i + 1 := by
  intro a
  have ha := h a
  have hk := h k
  unfold pinU2 pinU1
  by_cases h1 : kind = 1 ∧ er = 0
  · have h2 : ¬ (kind = 2 ∧ er = 0) := fun h => by omega
    rw [if_neg h2, if_pos h1]
    by_cases e : a = k
    · subst e; rw [upd_same]; omega
    · rw [upd_other _ _ e]; omega
  · rw [if_neg h1]
    by_cases h2 : kind = 2 ∧ er = 0
    · rw [if_pos h2]
      by_cases e : a = k
      · subst e; rw [upd_same]; omega
      · rw [upd_other _ _ e]; omega
    · rw [if_neg h2]; omega

theorem kvs_one (l : List K) : ∀ y ∈ kvs l, y.oneCell' = true := by
  intro y hy
  obtain ⟨k, _, rfl⟩ := List.mem_map.1 hy
  rfl

/-- all the keys that a cache tells, as the law lays them -/
def allOf (t : St) : List K := t.once.reverse ++ (t.often.reverse ++ (t.wonce.reverse ++ t.woften.reverse))
theorem allOf_count (t : St) (a : K) : (allOf t).count a = t.once.count a + t.often.count a + t.wonce.count a + t.woften.count a := by
  unfold allOf
  simp only [List.count_append, List.count_reverse]
  omega
theorem allOf_len (t : St) : (allOf t).length = t.once.length + t.often.length + t.wonce.length + t.woften.length := by
  unfold allOf
  simp only [List.length_append, List.length_reverse]
  omega
theorem allOf_nodup {t : St} (ok : Ok t) : (allOf t).Nodup := by
  rw [List.nodup_iff_count]
  intro a
  rw [allOf_count]
  exact ok.one a
theorem allOf_diff {t : St} (ok : Ok t) {i j : Nat} (hi : i < (allOf t).length) (hj : j < i) : (((allOf t)[j]'(by omega) : K) == (allOf t)[i]) = false := by
  refine beq_eq_false_iff_ne.2 (fun e => ?_)
  exact (List.pairwise_iff_getElem.1 (allOf_nodup ok)) j i (by omega) hi hj e
theorem allOf_held {t : St} (ok : Ok t) {i : Nat} (hi : i < (allOf t).length) : decide ((allOf t)[i] ∈ t.once ∨ (allOf t)[i] ∈ t.often) = decide (i < t.once.length + t.often.length) := by
  have hsplit : allOf t = (t.once.reverse ++ t.often.reverse) ++ (t.wonce.reverse ++ t.woften.reverse) := by unfold allOf; simp
  have hl1 : (t.once.reverse ++ t.often.reverse).length = t.once.length + t.often.length := by simp
  by_cases h : i < t.once.length + t.often.length
  · rw [decide_eq_true h]
    refine decide_eq_true ?_
    have hm : (allOf t)[i] ∈ t.once.reverse ++ t.often.reverse := by
      have e : (allOf t)[i] = (t.once.reverse ++ t.often.reverse)[i]'(by omega) := by
        simp only [hsplit]
        exact List.getElem_append_left (by omega)
      rw [e]
      exact List.getElem_mem _
    simpa using hm
  · rw [decide_eq_false h]
    refine decide_eq_false ?_
    have hm : (allOf t)[i] ∈ t.wonce.reverse ++ t.woften.reverse := by
      have e : (allOf t)[i] = (t.wonce.reverse ++ t.woften.reverse)[i - (t.once.reverse ++ t.often.reverse).length]'(by have := hi; rw [hsplit, List.length_append] at this; omega) := by
        simp only [hsplit]
        exact List.getElem_append_right (by omega)
      rw [e]
      exact List.getElem_mem _
    have hm2 : (allOf t)[i] ∈ t.wonce ∨ (allOf t)[i] ∈ t.woften := by simpa using hm
    intro hh
    have one := ok.one (allOf t)[i]
    rcases hh with h1 | h1 <;> rcases hm2 with h2 | h2 <;>
      (have := count_pos h1; have := count_pos h2; omega)
theorem allOf_key {t : St} (ok : Ok t) {i : Nat} (hi : i < (allOf t).length) : (Lit.int .i64 (allOf t)[i]).wf = true := by
  have hm : (allOf t)[i] ∈ allOf t := List.getElem_mem _
  refine ok.keys _ ?_
  generalize (allOf t)[i] = a at hm
  unfold allOf at hm
  simpa using hm

end Go.Proofs.YtbgbomlmgkgkoaaGreat.arcI
