/- pool: the plain law of what stands on a device that goes down behind a Flush: sector by sector what was safe, or what was written later. No program in sight. -/
import Derived.Test.YtbgbomlmgkgkoaaPoM
import Derived.Test.YtbgbomlmgkgkoaaDvG
namespace Go.Proofs.Ytbgbomlmgkgkoaa.arcI
open Go.RowKit Go.Proofs.Ytbgbomlmgkgkoaa.own Go.Proofs.Ytbgbomlmgkgkoaa.dv Go.Proofs.Ytbgbomlmgkgkoaa.po

/-- all that was written later -/
structure Later (s : Sp) (D : Dev) (L : Int → List ByteArray) : Prop where
  cache : ∀ p ∈ D.cache, p.2 ∈ L p.1
  dirty : ∀ k p, s.pg k = some p → p.dirty = true → p.text ∈ L k
theorem gone_late {s : Sp} {D : Dev} {L : Int → List ByteArray} (h : Later s D L) (t : St) (gn : Option Int) : Later (goneS s D t gn).1 (goneS s D t gn).2 L ∧ (goneS s D t gn).2.safe = D.safe ∧ (goneS s D t gn).2.ns = D.ns := by
  rcases gn with _ | g
  · exact ⟨⟨h.cache, h.dirty⟩, rfl, rfl⟩
  · rcases hp : s.pg g with _ | p
    · have e : goneS s D t (some g) = ({ s with arc := t, misses := s.misses + 1 }, D) := evictS_none (s := { s with arc := t, misses := s.misses + 1 }) hp
      rw [e]
      exact ⟨⟨h.cache, h.dirty⟩, rfl, rfl⟩
    · rw [goneS_some t hp]
      have dd : ∀ k q, updP s.pg g none k = some q → q.dirty = true → q.text ∈ L k := fun k q hq hd => by
        by_cases hk : k = g
        · subst hk; rw [updP_same] at hq; cases hq
        · rw [updP_other _ _ hk] at hq; exact h.dirty k q hq hd
      cases hd : p.dirty with
      | false => exact ⟨⟨h.cache, dd⟩, rfl, rfl⟩
      | true => exact ⟨⟨fun q hq => by
          have hq : q ∈ D.cache ++ [(g, p.text)] := hq
          rcases List.mem_append.1 hq with hq | hq
          · exact h.cache q hq
          · rw [List.mem_singleton] at hq; subst hq; exact h.dirty g p hp hd, dd⟩, rfl, rfl⟩
theorem fetch_late {s : Sp} {D : Dev} {L : Int → List ByteArray} (h : Later s D L) (no : Int) (u : ByteArray) (n : Nat) :
    Later (setPg (fetchS s D no true).1.1 no ⟨u, true, n⟩) (fetchS s D no true).1.2 (fun k => if k = no then L k ++ [u] else L k) ∧ (fetchS s D no true).1.2.safe = D.safe := by
  have key : ∀ (s' : Sp) (D' : Dev), (∀ p ∈ D'.cache, p.2 ∈ L p.1) → (∀ k p, k ≠ no → s'.pg k = some p → p.dirty = true → p.text ∈ L k) → Later (setPg s' no ⟨u, true, n⟩) D' (fun k => if k = no then L k ++ [u] else L k) := fun s' D' hc hd => by
    refine ⟨fun p hp => ?_, fun k p hp hdp => ?_⟩
    · show p.2 ∈ if p.1 = no then L p.1 ++ [u] else L p.1
      by_cases hk : p.1 = no
      · rw [if_pos hk]; exact List.mem_append_left _ (hc p hp)
      · rw [if_neg hk]; exact hc p hp
    · have hp : updP s'.pg no (some ⟨u, true, n⟩) k = some p := hp
      show p.text ∈ if k = no then L k ++ [u] else L k
      by_cases hk : k = no
      · subst hk; rw [updP_same] at hp; rw [if_pos rfl, ← Option.some.inj hp]; exact List.mem_append_right _ (List.mem_singleton.2 rfl)
      · rw [updP_other _ _ hk] at hp; rw [if_neg hk]; exact hd k p hk hp hdp
  unfold fetchS
  generalize touchS s.arc no = r
  obtain ⟨t, hit, gn, er⟩ := r
  dsimp only
  by_cases e0 : er = 0
  · rw [if_pos e0]
    by_cases hh : hit = true
    · rw [if_pos hh]; exact ⟨key _ _ h.cache (fun k p _ => h.dirty k p), rfl⟩
    · rw [if_neg hh]
      obtain ⟨a, b, _⟩ := gone_late h t gn
      unfold missS
      generalize goneS s D t gn = q at a b
      obtain ⟨s2, D2⟩ := q
      dsimp only at a b ⊢
      refine ⟨key _ _ a.cache (fun k p hk hp hd => a.dirty k p ?_ hd), b⟩
      have hp : updP s2.pg no _ k = some p := hp
      rwa [updP_other _ _ hk] at hp
  · rw [if_neg e0]; exact ⟨key _ _ h.cache (fun k p _ => h.dirty k p), rfl⟩

/-- behind a Flush of all pages: all is safe, nothing is written later -/
theorem flush_late {s : Sp} {D : Dev} (ok : SpOk s D) (ks : List Int) (hks : ∀ k, k ∈ ks ↔ (KOK k ∧ (s.pg k).isSome = true)) :
    Later (stS s D ks).1 (stS s D ks).2.flush (fun _ => []) ∧ ∀ k : Int, (stS s D ks).2.flush.kept k = cont s D k := by
  have w := stS_ok ok ks
  have cl : ∀ k p, (stS s D ks).1.pg k = some p → p.dirty = false := fun k p hp => by
    have hb := ok.dev.blocks
    have hk := ok.key k
    have hsm : (s.pg k).isSome = true := by rw [← w.some_ k, hp]; rfl
    obtain ⟨q, hq⟩ := Option.isSome_iff_exists.1 hsm
    have hkk := hk q hq
    exact stS_clean ok ks k p ((hks k).2 ⟨WalkArith.wf_i64 (by omega), hsm⟩) hp
  refine ⟨⟨fun p hp => (by cases hp), fun k p hp hd => (by rw [cl k p hp] at hd; cases hd)⟩, fun k => ?_⟩
  rw [← w.cont k]
  have e : (stS s D ks).2.flush.kept k = (stS s D ks).2.now k := by
    rw [← Dev.now_flush]
    unfold Dev.now
    rfl
  rw [e]
  unfold arcI.cont
  rcases hp : (stS s D ks).1.pg k with _ | p
  · rfl
  · exact (w.ok.clean k p hp (cl k p hp)).symm

/-- what stands then -/
theorem fell_tells {s : Sp} {D D' : Dev} {L : Int → List ByteArray} (h : Fell D D') (l : Later s D L) {n : Int} {k : Nat} (hk : k < D.ns) : sect (D'.now n) k = sect (D.kept n) k ∨ ∃ t ∈ L n, sect (D'.now n) k = sect t k := by
  have e : D'.now n = D'.kept n := by unfold Dev.now; rw [h.cache]; rfl
  rw [e]
  rcases h.sect n k hk with h1 | ⟨t, h1, h2⟩
  · exact .inl h1
  · exact .inr ⟨t, l.cache _ h1, h2⟩

end Go.Proofs.Ytbgbomlmgkgkoaa.arcI
