/- pool: the plain law of which keys a cache holds behind a touch, and what a space makes of a call. No program in sight. -/
import Derived.Test.YtbgbomlmgkgkoaaGreatArcB2
import Derived.Test.YtbgbomlmgkgkoaaGreatDvP
namespace Go.Proofs.YtbgbomlmgkgkoaaGreat.arcI
open Go.RowKit Go.Proofs.YtbgbomlmgkgkoaaGreat.own Go.Proofs.YtbgbomlmgkgkoaaGreat.dv

def heldL (s : St) : List Int := s.once ++ s.often
theorem heldL_nodup {s : St} (ok : Ok s) : (heldL s).Nodup := List.nodup_iff_count.2 (fun a => by have := ok.one a; unfold heldL; rw [List.count_append]; omega)
theorem mem_heldL (s : St) (a : Int) : a ∈ heldL s ↔ a ∈ s.once ∨ a ∈ s.often := List.mem_append
theorem heldL_len (s : St) : (heldL s).length = s.once.length + s.often.length := List.length_append

theorem or_move1 (p q t : Prop) : (p ∨ (q ∨ t)) ↔ (t ∨ (p ∨ q)) := ⟨fun h => h.elim (fun h => .inr (.inl h)) (fun h => h.elim (fun h => .inr (.inr h)) .inl), fun h => h.elim (fun h => .inr (.inr h)) (fun h => h.elim .inl (fun h => .inr (.inl h)))⟩
theorem or_move2 (p q t : Prop) : ((p ∨ t) ∨ q) ↔ (t ∨ (p ∨ q)) := ⟨fun h => h.elim (fun h => h.elim (fun h => .inr (.inl h)) .inl) (fun h => .inr (.inr h)), fun h => h.elim (fun h => .inl (.inr h)) (fun h => h.elim (fun h => .inl (.inl h)) .inr)⟩
theorem RoomOk.mem {s t : St} {gn : Option Int} (r : RoomOk s t gn) (a : Int) : (a ∈ t.once ∨ a ∈ t.often) ↔ (a ∈ s.once ∨ a ∈ s.often) ∧ gn ≠ some a :=
  ⟨fun h => ⟨r.stay a h, fun e => by obtain ⟨_, _, h3, h4⟩ := r.gone a e; rcases h with h | h; exact h3 h; exact h4 h⟩, fun h => r.keep a h.1 h.2⟩
theorem AddOk.mem {s t : St} {gn : Option Int} (r : AddOk s t gn) (a : Int) : (a ∈ t.once ∨ a ∈ t.often) ↔ (a ∈ s.once ∨ a ∈ s.often) ∧ gn ≠ some a :=
  ⟨fun h => ⟨r.stay a h, fun e => by obtain ⟨_, _, h3, h4⟩ := r.gone a e; rcases h with h | h; exact h3 h; exact h4 h⟩, fun h => r.keep a h.1 h.2⟩

/-- which keys are held behind a touch that was no refusal -/
theorem touch_mem (s : St) (k : Int) (ok : Ok s) (he : (touchS s k).2.2.2 = 0) (a : Int) :
    (a ∈ (touchS s k).1.once ∨ a ∈ (touchS s k).1.often) ↔ a = k ∨ ((a ∈ s.once ∨ a ∈ s.often) ∧ (touchS s k).2.2.1 ≠ some a) := by
  unfold touchS at he ⊢
  by_cases c1 : k ∈ s.once ∨ k ∈ s.often
  · rw [if_pos c1]
    show (a ∈ s.once.erase k ∨ a ∈ s.often.erase k ++ [k]) ↔ _
    by_cases ha : a = k
    · subst ha; simp
    · rw [List.mem_append, List.mem_erase_of_ne ha, List.mem_erase_of_ne ha]
      simp [ha]
  · rw [if_neg c1] at he ⊢
    by_cases c2 : stuck s = true
    · rw [if_pos c2] at he; simp at he
    · rw [if_neg c2] at he ⊢
      have c3 : stuck s = false := by simpa using c2
      by_cases c4 : k ∈ s.wonce
      · rw [if_pos c4]
        have r := roomS_ok (upS s) false (ok.aim _ (by show min s.size _ ≤ s.size; omega)) (not_stuck c3)
        have m := r.mem a
        generalize roomS (upS s) false = q at m ⊢
        show (a ∈ q.1.once ∨ a ∈ q.1.often ++ [k]) ↔ a = k ∨ ((a ∈ s.once ∨ a ∈ s.often) ∧ q.2 ≠ some a)
        have m : (a ∈ q.1.once ∨ a ∈ q.1.often) ↔ (a ∈ s.once ∨ a ∈ s.often) ∧ q.2 ≠ some a := m
        rw [← m, List.mem_append, List.mem_singleton]
        exact or_move1 _ _ _
      · rw [if_neg c4] at he ⊢
        by_cases c5 : k ∈ s.woften
        · rw [if_pos c5]
          have r := roomS_ok (downS s) true (ok.aim _ (by have := ok.target; show s.target - _ ≤ s.size; omega)) (not_stuck c3)
          have m := r.mem a
          generalize roomS (downS s) true = q at m ⊢
          show (a ∈ q.1.once ∨ a ∈ q.1.often ++ [k]) ↔ a = k ∨ ((a ∈ s.once ∨ a ∈ s.often) ∧ q.2 ≠ some a)
          have m : (a ∈ q.1.once ∨ a ∈ q.1.often) ↔ (a ∈ s.once ∨ a ∈ s.often) ∧ q.2 ≠ some a := m
          rw [← m, List.mem_append, List.mem_singleton]
          exact or_move1 _ _ _
        · rw [if_neg c5]
          have m := (addS_ok s ok (not_stuck c3)).mem a
          generalize addS s = q at m ⊢
          show (a ∈ q.1.once ++ [k] ∨ a ∈ q.1.often) ↔ a = k ∨ ((a ∈ s.once ∨ a ∈ s.often) ∧ q.2 ≠ some a)
          have m : (a ∈ q.1.once ∨ a ∈ q.1.often) ↔ (a ∈ s.once ∨ a ∈ s.often) ∧ q.2 ≠ some a := m
          rw [← m, List.mem_append, List.mem_singleton]
          exact or_move2 _ _ _
theorem touch_from (s : St) (k : Int) (ok : Ok s) : ∀ g, (touchS s k).2.2.1 = some g → g ∈ s.once ∨ g ∈ s.often := by
  intro g hg
  unfold touchS at hg
  by_cases c1 : k ∈ s.once ∨ k ∈ s.often
  · rw [if_pos c1] at hg; cases hg
  · rw [if_neg c1] at hg
    by_cases c2 : stuck s = true
    · rw [if_pos c2] at hg; cases hg
    · rw [if_neg c2] at hg
      have c3 : stuck s = false := by simpa using c2
      by_cases c4 : k ∈ s.wonce
      · rw [if_pos c4] at hg
        exact ((roomS_ok (upS s) false (ok.aim _ (by show min s.size _ ≤ s.size; omega)) (not_stuck c3)).gone g hg).2.1
      · rw [if_neg c4] at hg
        by_cases c5 : k ∈ s.woften
        · rw [if_pos c5] at hg
          exact ((roomS_ok (downS s) true (ok.aim _ (by have := ok.target; show s.target - _ ≤ s.size; omega)) (not_stuck c3)).gone g hg).2.1
        · rw [if_neg c5] at hg
          exact ((addS_ok s ok (not_stuck c3)).gone g hg).2.1
theorem touch_hit_none (s : St) (k : Int) (h : (touchS s k).2.1 = true) : (touchS s k).2.2.1 = none := by
  unfold touchS at h ⊢
  by_cases c1 : k ∈ s.once ∨ k ∈ s.often
  · rw [if_pos c1]
  · rw [if_neg c1] at h
    by_cases c2 : stuck s = true
    · rw [if_pos c2] at h; cases h
    · rw [if_neg c2] at h
      by_cases c4 : k ∈ s.wonce
      · rw [if_pos c4] at h; cases h
      · rw [if_neg c4] at h
        by_cases c5 : k ∈ s.woften
        · rw [if_pos c5] at h; cases h
        · rw [if_neg c5] at h; cases h

/-! ### a space, as plain data -/
structure Pg where
  text : ByteArray
  dirty : Bool
  pins : Nat
def updP {α : Type} (f : Int → Option α) (k : Int) (v : Option α) : Int → Option α := fun x => if x = k then v else f x
theorem updP_same {α : Type} (f : Int → Option α) (k : Int) (v : Option α) : updP f k v k = v := if_pos rfl
theorem updP_other {α : Type} (f : Int → Option α) {k x : Int} (v : Option α) (h : x ≠ k) : updP f k v x = f x := if_neg h

structure Sp where
  arc : St
  pg : Int → Option Pg
  cnt : Nat
  hits : Nat
  misses : Nat
  written : Nat
  pinned : Nat
  most : Nat
  dead : Bool

/-- a page goes -/
def evictS (s : Sp) (D : Dev) (g : Int) : Sp × Dev := match s.pg g with
  | none => (s, D)
  | some p => ({ s with pg := updP s.pg g none, cnt := s.cnt - 1, written := if p.dirty then s.written + 1 else s.written }, if p.dirty then D.write g p.text else D)
def readD (D : Dev) : Dev := { D with reads := D.reads + 1 }
/-- a page comes, in place of which one may be gone -/
def goneS (s : Sp) (D : Dev) (a : St) : Option Int → Sp × Dev
  | none => ({ s with arc := a, misses := s.misses + 1 }, D)
  | some g => evictS { s with arc := a, misses := s.misses + 1 } D g
def missS (s : Sp) (D : Dev) (a : St) (no : Int) (whole : Bool) (gone : Option Int) : Sp × Dev :=
  let r := goneS s D a gone
  ({ r.1 with pg := updP r.1.pg no (some ⟨if whole then (⟨#[]⟩ : ByteArray) else r.2.now no, false, 0⟩), cnt := r.1.cnt + 1 }, if whole then r.2 else readD r.2)
/-- what fetching a page makes of a space, and of its device -/
def fetchS (s : Sp) (D : Dev) (no : Int) (whole : Bool) : (Sp × Dev) × Nat :=
  if (touchS s.arc no).2.2.2 = 0 then
    if (touchS s.arc no).2.1 = true then (({ s with arc := (touchS s.arc no).1, hits := s.hits + 1 }, D), 0)
    else (missS s D (touchS s.arc no).1 no whole (touchS s.arc no).2.2.1, 0)
  else (({ s with arc := (touchS s.arc no).1 }, D), (touchS s.arc no).2.2.2)
/-- a page is set anew -/
def setPg (s : Sp) (no : Int) (p : Pg) : Sp := { s with pg := updP s.pg no (some p) }

/-- what holds of a space always, while its device is up -/
structure SpOk (s : Sp) (D : Dev) : Prop where
  arc : Ok s.arc
  held : ∀ k, (s.pg k).isSome = true ↔ (k ∈ s.arc.once ∨ k ∈ s.arc.often)
  pins : ∀ k p, s.pg k = some p → p.pins = s.arc.pins k
  cnt : s.cnt = (heldL s.arc).length
  text : ∀ k p, s.pg k = some p → p.text.size = D.size
  key : ∀ k p, s.pg k = some p → 0 ≤ k ∧ k < D.nb
  clean : ∀ k p, s.pg k = some p → p.dirty = false → p.text = D.now k
  dev : D.Ok
  up : D.down = false
  dead : s.dead = false

/-- what a block has, as a space tells it -/
def cont (s : Sp) (D : Dev) (k : Int) : ByteArray := match s.pg k with
  | some p => p.text
  | none => D.now k

theorem len_of_mem {l l' : List Int} (h : l.Nodup) (h' : l'.Nodup) (hm : ∀ a, a ∈ l ↔ a ∈ l') : l.length = l'.length :=
  ((List.perm_ext_iff_of_nodup h h').2 hm).length_eq

/-- the count of pages held behind a touch -/
theorem touch_len (s : St) (k : Int) (ok : Ok s) (hk : (Lit.int .i64 k).wf = true) (he : (touchS s k).2.2.2 = 0) :
    (heldL (touchS s k).1).length + (if (touchS s k).2.2.1.isSome then 1 else 0) = (heldL s).length + (if (touchS s k).2.1 = true then 0 else 1) := by
  have T := touchS_ok s k ok hk
  have M := touch_mem s k ok he
  have F := touch_from s k ok
  have HN := touch_hit_none s k
  generalize touchS s k = r at T M F HN he ⊢
  obtain ⟨t, hit, gn, er⟩ := r
  dsimp only at T M F HN he ⊢
  have hf := T.found he
  have n1 := heldL_nodup T.ok
  have n0 := heldL_nodup ok
  by_cases hh : hit = true
  · have hg := HN hh
    subst hg
    rw [hh]
    have hks := hf.1 hh
    have := len_of_mem n1 n0 (fun a => by
      rw [mem_heldL, mem_heldL, M a]
      constructor
      · rintro (rfl | h)
        · exact hks
        · exact h.1
      · intro h; exact .inr ⟨h, by simp⟩)
    simp [this]
  · have hks : ¬ (k ∈ s.once ∨ k ∈ s.often) := fun h => hh (hf.2 h)
    rw [if_neg hh]
    have hnk : k ∉ heldL s := fun h => hks ((mem_heldL s k).1 h)
    rcases gn with _ | g
    · have := len_of_mem n1 (l' := k :: heldL s) (List.nodup_cons.2 ⟨hnk, n0⟩) (fun a => by
        rw [mem_heldL, M a, List.mem_cons, mem_heldL]
        constructor
        · rintro (rfl | h)
          · exact .inl rfl
          · exact .inr h.1
        · rintro (rfl | h)
          · exact .inl rfl
          · exact .inr ⟨h, by simp⟩)
      simp [this]
    · have hgs : g ∈ heldL s := (mem_heldL s g).2 (F g rfl)
      have hgk : g ≠ k := fun e => hnk (e ▸ hgs)
      have := len_of_mem n1 (l' := k :: (heldL s).erase g) (List.nodup_cons.2 ⟨fun h => hnk (List.mem_of_mem_erase h), n0.erase g⟩) (fun a => by
        rw [mem_heldL, M a, List.mem_cons, n0.mem_erase_iff, mem_heldL]
        constructor
        · rintro (rfl | h)
          · exact .inl rfl
          · exact .inr ⟨fun e => h.2 (by rw [e]), h.1⟩
        · rintro (rfl | h)
          · exact .inl rfl
          · exact .inr ⟨h.2, fun e => h.1 (Option.some.inj e).symm⟩)
      have hl := len_erase hgs
      simp only [List.length_cons] at this
      simp
      omega

theorem Dev.now_readD (D : Dev) (k : Int) : (readD D).now k = D.now k := rfl
theorem readD_ok {D : Dev} (h : D.Ok) : (readD D).Ok := ⟨h.blocks, h.sectors, h.safe, h.cache⟩

theorem evictS_none {s : Sp} {D : Dev} {g : Int} (h : s.pg g = none) : evictS s D g = (s, D) := by unfold evictS; rw [h]
theorem evictS_some {s : Sp} {D : Dev} {g : Int} {p : Pg} (h : s.pg g = some p) : evictS s D g = ({ s with pg := updP s.pg g none, cnt := s.cnt - 1, written := if p.dirty then s.written + 1 else s.written }, if p.dirty then D.write g p.text else D) := by unfold evictS; rw [h]
theorem goneS_some {s : Sp} {D : Dev} (t : St) {g : Int} {p : Pg} (h : s.pg g = some p) :
    goneS s D t (some g) = ({ s with arc := t, misses := s.misses + 1, pg := updP s.pg g none, cnt := s.cnt - 1, written := if p.dirty then s.written + 1 else s.written }, if p.dirty then D.write g p.text else D) :=
  evictS_some (s := { s with arc := t, misses := s.misses + 1 }) h
theorem gone_dev (s : Sp) (D : Dev) (t : St) (gn : Option Int) (ok : SpOk s D) (no : Int) (hn : s.pg no = none) : (goneS s D t gn).2.Ok ∧ (goneS s D t gn).2.down = false ∧ (goneS s D t gn).2.nb = D.nb ∧ (goneS s D t gn).1.pg no = none := by
  rcases gn with _ | g
  · exact ⟨ok.dev, ok.up, rfl, hn⟩
  · rcases hp : s.pg g with _ | p
    · have e : goneS s D t (some g) = ({ s with arc := t, misses := s.misses + 1 }, D) := evictS_none (s := { s with arc := t, misses := s.misses + 1 }) hp
      rw [e]
      exact ⟨ok.dev, ok.up, rfl, hn⟩
    · rw [goneS_some t hp]
      refine ⟨?_, ?_, ?_, ?_⟩
      · cases p.dirty
        · exact ok.dev
        · exact ok.dev.write (ok.key g p hp).1 (ok.key g p hp).2 (ok.text g p hp)
      · cases p.dirty <;> exact ok.up
      · cases p.dirty <;> rfl
      · show updP s.pg g none no = none
        by_cases h : no = g
        · rw [h, updP_same]
        · rw [updP_other _ _ h]; exact hn

/-- a page comes: what holds then; the fetched page may be set -/
theorem fetch_ok (s : Sp) (D : Dev) (no : Int) (whole : Bool) (ok : SpOk s D) (h0 : 0 ≤ no) (h1 : no < D.nb) (he : (fetchS s D no whole).2 = 0) :
    (∃ p, (fetchS s D no whole).1.1.pg no = some p ∧ p.pins = s.arc.pins no ∧ (whole = false → p.text = cont s D no ∧ (p.dirty = false → p.text = (fetchS s D no whole).1.2.now no))) ∧
    (fetchS s D no whole).1.1.arc.pins = s.arc.pins ∧ (fetchS s D no whole).1.1.pinned = s.pinned ∧ (fetchS s D no whole).1.1.most = s.most ∧ (fetchS s D no whole).1.1.arc.size = s.arc.size ∧
    (fetchS s D no whole).1.2.nb = D.nb ∧ (fetchS s D no whole).1.2.ns = D.ns ∧
    (∀ k, k ≠ no → cont (fetchS s D no whole).1.1 (fetchS s D no whole).1.2 k = cont s D k) ∧
    ∀ p' : Pg, p'.pins = s.arc.pins no → p'.text.size = D.size → (p'.dirty = false → p'.text = (fetchS s D no whole).1.2.now no) → SpOk (setPg (fetchS s D no whole).1.1 no p') (fetchS s D no whole).1.2 := by
  have hb := ok.dev.blocks
  have hk : (Lit.int .i64 no).wf = true := WalkArith.wf_i64 (by omega)
  have T := touchS_ok s.arc no ok.arc hk
  have M := touch_mem s.arc no ok.arc
  have F := touch_from s.arc no ok.arc
  have L := touch_len s.arc no ok.arc hk
  have HN := touch_hit_none s.arc no
  have dead := ok.dead
  unfold fetchS at he ⊢
  generalize touchS s.arc no = r at T M F L HN he ⊢
  obtain ⟨t, hit, gn, er⟩ := r
  dsimp only at T M F L HN he ⊢
  by_cases e0 : er = 0
  · rw [if_pos e0] at he ⊢
    have M := M e0
    have L := L e0
    have hf := T.found e0
    by_cases hh : hit = true
    · rw [if_pos hh]
      have hks := hf.1 hh
      have hg := HN hh
      subst hg
      obtain ⟨p, hp⟩ := Option.isSome_iff_exists.1 ((ok.held no).2 hks)
      dsimp only
      refine ⟨⟨p, hp, ok.pins no p hp, fun _ => ⟨by unfold cont; rw [hp], ok.clean no p hp⟩⟩, T.pins, rfl, rfl, T.size, rfl, rfl, fun k _ => rfl, fun p' q1 q2 q3 => ?_⟩
      refine ⟨T.ok, fun k => ?_, fun k q hq => ?_, ?_, fun k q hq => ?_, fun k q hq => ?_, fun k q hq => ?_, ok.dev, ok.up, dead⟩
      · show (updP s.pg no (some p') k).isSome = true ↔ (k ∈ t.once ∨ k ∈ t.often)
        rw [M k]
        by_cases hkn : k = no
        · subst hkn; rw [updP_same]; simp
        · rw [updP_other _ _ hkn, ok.held k]; simp [hkn]
      · have hq : updP s.pg no (some p') k = some q := hq
        show q.pins = t.pins k
        rw [T.pins]
        by_cases hkn : k = no
        · subst hkn; rw [updP_same] at hq; rw [← Option.some.inj hq]; exact q1
        · rw [updP_other _ _ hkn] at hq; exact ok.pins k q hq
      · show s.cnt = (heldL t).length
        rw [ok.cnt]
        rw [hh] at L
        simp at L
        exact L.symm
      · have hq : updP s.pg no (some p') k = some q := hq
        by_cases hkn : k = no
        · subst hkn; rw [updP_same] at hq; rw [← Option.some.inj hq]; exact q2
        · rw [updP_other _ _ hkn] at hq; exact ok.text k q hq
      · have hq : updP s.pg no (some p') k = some q := hq
        by_cases hkn : k = no
        · subst hkn; exact ⟨h0, h1⟩
        · rw [updP_other _ _ hkn] at hq; exact ok.key k q hq
      · have hq : updP s.pg no (some p') k = some q := hq
        by_cases hkn : k = no
        · subst hkn; rw [updP_same] at hq; rw [← Option.some.inj hq]; exact q3
        · rw [updP_other _ _ hkn] at hq; exact ok.clean k q hq
    · rw [if_neg hh]
      have hks : ¬ (no ∈ s.arc.once ∨ no ∈ s.arc.often) := fun h => hh (hf.2 h)
      have hpn : s.pg no = none := by
        rcases hp : s.pg no with _ | p
        · rfl
        · exact absurd ((ok.held no).1 (by rw [hp]; rfl)) hks
      have hz : s.arc.pins no = 0 := by
        rcases Nat.eq_zero_or_pos (s.arc.pins no) with h | h
        · exact h
        · exact absurd (ok.arc.pinned no h) hks
      rw [if_neg hh] at L
      -- the state ahead of the new page
      have K : ∃ (s2 : Sp) (D2 : Dev), goneS s D t gn = (s2, D2) ∧
          s2.arc = t ∧ s2.pinned = s.pinned ∧ s2.most = s.most ∧ s2.dead = s.dead ∧ s2.cnt + (if gn.isSome then 1 else 0) = s.cnt ∧ D2.nb = D.nb ∧ D2.ns = D.ns ∧ D2.Ok ∧ D2.down = false ∧
          (∀ k, s2.pg k = if gn = some k then none else s.pg k) ∧ (∀ k, gn ≠ some k → D2.now k = D.now k) ∧ (∀ k, gn = some k → D2.now k = cont s D k) := by
        rcases gn with _ | g
        · exact ⟨_, _, rfl, rfl, rfl, rfl, rfl, by simp, rfl, rfl, ok.dev, ok.up, fun k => by simp, fun k _ => rfl, fun k hk => by cases hk⟩
        · have hgs := F g rfl
          obtain ⟨p, hp⟩ := Option.isSome_iff_exists.1 ((ok.held g).2 hgs)
          have hcn : 0 < s.cnt := by rw [ok.cnt]; exact List.length_pos_of_mem ((mem_heldL s.arc g).2 hgs)
          refine ⟨{ s with arc := t, misses := s.misses + 1, pg := updP s.pg g none, cnt := s.cnt - 1, written := if p.dirty then s.written + 1 else s.written }, if p.dirty then D.write g p.text else D, ?_, rfl, rfl, rfl, rfl, by simp; omega, ?_, ?_, ?_, ?_, fun k => ?_, fun k hk => ?_, fun k hk => ?_⟩
          · show evictS { s with arc := t, misses := s.misses + 1 } D g = _
            unfold evictS
            show (match s.pg g with | none => _ | some p => _) = _
            rw [hp]
          · cases p.dirty <;> rfl
          · cases p.dirty <;> rfl
          · cases hd : p.dirty
            · exact ok.dev
            · exact ok.dev.write (ok.key g p hp).1 (ok.key g p hp).2 (ok.text g p hp)
          · cases p.dirty
            · exact ok.up
            · exact ok.up
          · show updP s.pg g none k = _
            by_cases hkg : k = g
            · subst hkg; rw [updP_same, if_pos rfl]
            · rw [updP_other _ _ hkg, if_neg (fun e => hkg (Option.some.inj e).symm)]
          · cases hd : p.dirty
            · rfl
            · show (D.write g p.text).now k = _
              rw [Dev.now_write, if_neg (fun e => hk (by rw [e]))]
          · have hkg : g = k := Option.some.inj hk
            subst hkg
            unfold cont
            rw [hp]
            cases hd : p.dirty
            · exact (ok.clean g p hp hd).symm
            · show (D.write g p.text).now g = _
              rw [Dev.now_write, if_pos rfl]
      obtain ⟨s2, D2, K0, Ka, Kp, Km, Kd, Kc, Kb, Ks, Ko, Ku, Kg, Kn, Kc2⟩ := K
      have ME : missS s D t no whole gn = ({ s2 with pg := updP s2.pg no (some ⟨if whole then (⟨#[]⟩ : ByteArray) else D2.now no, false, 0⟩), cnt := s2.cnt + 1 }, if whole then D2 else readD D2) := by
        unfold missS
        rw [K0]
      rw [ME]
      have hgn : gn ≠ some no := fun e => hks (F no e)
      have W : (if whole then D2 else readD D2).nb = D2.nb ∧ (if whole then D2 else readD D2).ns = D2.ns ∧ (if whole then D2 else readD D2).Ok ∧ (if whole then D2 else readD D2).down = false ∧ ∀ k, (if whole then D2 else readD D2).now k = D2.now k := by
        cases whole
        · exact ⟨rfl, rfl, readD_ok Ko, Ku, fun _ => rfl⟩
        · exact ⟨rfl, rfl, Ko, Ku, fun _ => rfl⟩
      generalize (if whole then D2 else readD D2) = D3 at W ⊢
      obtain ⟨Wb, Ws, Wo, Wu, Wn⟩ := W
      have hsize : D3.size = D.size := by unfold Dev.size; rw [Ws, Ks]
      dsimp only
      refine ⟨⟨_, updP_same _ _ _, hz.symm, fun hw => ?_⟩, by rw [Ka]; exact T.pins, Kp, Km, by rw [Ka]; exact T.size, by rw [Wb, Kb], by rw [Ws, Ks], fun k hkn => ?_, fun p' q1 q2 q3 => ?_⟩
      · subst hw
        refine ⟨?_, fun _ => (Wn no).symm⟩
        unfold cont
        rw [hpn]
        exact Kn no hgn
      · unfold cont
        show (match updP s2.pg no _ k with | some p => p.text | none => D3.now k) = _
        rw [updP_other _ _ hkn, Kg k]
        by_cases hgk : gn = some k
        · rw [if_pos hgk, Wn]
          exact Kc2 k hgk
        · rw [if_neg hgk, Wn, Kn k hgk]
      · have PG : ∀ k, (setPg { s2 with pg := updP s2.pg no (some ⟨if whole then (⟨#[]⟩ : ByteArray) else D2.now no, false, 0⟩), cnt := s2.cnt + 1 } no p').pg k = if k = no then some p' else if gn = some k then none else s.pg k := fun k => by
          show updP (updP s2.pg no _) no (some p') k = _
          by_cases hkn : k = no
          · subst hkn; rw [updP_same, if_pos rfl]
          · rw [updP_other _ _ hkn, updP_other _ _ hkn, if_neg hkn, Kg k]
        have ARC : (setPg { s2 with pg := updP s2.pg no (some ⟨if whole then (⟨#[]⟩ : ByteArray) else D2.now no, false, 0⟩), cnt := s2.cnt + 1 } no p').arc = t := Ka
        refine ⟨by rw [ARC]; exact T.ok, fun k => ?_, fun k q hq => ?_, ?_, fun k q hq => ?_, fun k q hq => ?_, fun k q hq => ?_, Wo, Wu, Kd.trans dead⟩
        · rw [PG k, ARC, M k]
          by_cases hkn : k = no
          · simp [hkn]
          · rw [if_neg hkn]
            by_cases hgk : gn = some k
            · rw [if_pos hgk]; simp [hkn, hgk]
            · rw [if_neg hgk, ok.held k]; simp [hkn, hgk]
        · rw [PG k] at hq
          rw [ARC, T.pins]
          by_cases hkn : k = no
          · rw [if_pos hkn] at hq; subst hkn; rw [← Option.some.inj hq]; exact q1
          · rw [if_neg hkn] at hq
            by_cases hgk : gn = some k
            · rw [if_pos hgk] at hq; cases hq
            · rw [if_neg hgk] at hq; exact ok.pins k q hq
        · rw [ARC]
          show s2.cnt + 1 = _
          have := ok.cnt
          cases hgi : gn.isSome <;> rw [hgi] at L Kc <;> simp at L Kc <;> omega
        · rw [PG k] at hq
          rw [hsize]
          by_cases hkn : k = no
          · rw [if_pos hkn] at hq; rw [← Option.some.inj hq]; exact q2
          · rw [if_neg hkn] at hq
            by_cases hgk : gn = some k
            · rw [if_pos hgk] at hq; cases hq
            · rw [if_neg hgk] at hq; exact ok.text k q hq
        · rw [PG k] at hq
          rw [Wb, Kb]
          by_cases hkn : k = no
          · rw [hkn]; exact ⟨h0, h1⟩
          · rw [if_neg hkn] at hq
            by_cases hgk : gn = some k
            · rw [if_pos hgk] at hq; cases hq
            · rw [if_neg hgk] at hq; exact ok.key k q hq
        · rw [PG k] at hq
          by_cases hkn : k = no
          · rw [if_pos hkn] at hq; subst hkn; rw [← Option.some.inj hq]; exact q3
          · rw [if_neg hkn] at hq
            by_cases hgk : gn = some k
            · rw [if_pos hgk] at hq; cases hq
            · rw [if_neg hgk] at hq
              intro hd
              rw [Wn, Kn k hgk]
              exact ok.clean k q hq hd
  · rw [if_neg e0] at he
    exact absurd he e0

end Go.Proofs.YtbgbomlmgkgkoaaGreat.arcI
