/- pool: the plain law of what is read: what a call leaves of what all blocks have; the law's space at any colours. -/
import Derived.Test.YtbgbomlmgkgkoaaGreatPoL
namespace Go.Proofs.YtbgbomlmgkgkoaaGreat.arcI
open Go.RowKit Go.Proofs.YtbgbomlmgkgkoaaGreat.own Go.Proofs.YtbgbomlmgkgkoaaGreat.dv Go.Proofs.YtbgbomlmgkgkoaaGreat.po

/-- without pins no page is refused -/
theorem touch_free {s : St} (ok : Ok s) (hp : ∀ k, s.pins k = 0) (no : Int) : (touchS s no).2.2.2 = 0 := by
  unfold touchS
  by_cases c1 : no ∈ s.once ∨ no ∈ s.often
  · rw [if_pos c1]
  · rw [if_neg c1]
    have c2 : ¬ stuck s = true := fun h => by
      have f := free_none h
      have hf : isFull s = true := by unfold stuck at h; simp only [Bool.and_eq_true] at h; exact h.1.1
      have hf2 : s.once.length + s.often.length = s.size := by simpa [isFull] using hf
      have hs := ok.size
      rcases List.length_pos_iff_exists_mem.1 (show 0 < (heldL s).length by rw [heldL_len]; omega) with ⟨a, ha⟩
      have := f a ((mem_heldL s a).1 ha)
      rw [hp a] at this
      omega
    rw [if_neg c2]
    by_cases c3 : no ∈ s.wonce
    · rw [if_pos c3]
    · rw [if_neg c3]
      by_cases c4 : no ∈ s.woften
      · rw [if_pos c4]
      · rw [if_neg c4]

theorem cont_set (s : Sp) (D : Dev) (no : Int) (p : Pg) (k : Int) : cont (setPg s no p) D k = if k = no then p.text else cont s D k := by
  unfold cont
  show (match updP s.pg no (some p) k with | some q => q.text | none => D.now k) = _
  by_cases h : k = no
  · subst h; rw [updP_same, if_pos rfl]
  · rw [updP_other _ _ h, if_neg h]; rcases s.pg k with _ | q <;> rfl
theorem cont_pg {s : Sp} {D : Dev} {k : Int} {p : Pg} (h : s.pg k = some p) : cont s D k = p.text := by unfold cont; rw [h]
theorem cont_read {s : Sp} {D : Dev} {no : Int} (ok : SpOk s D) (h0 : 0 ≤ no) (h1 : no < D.nb) (he : (touchS s.arc no).2.2.2 = 0) (k : Int) : cont (fetchS s D no false).1.1 (fetchS s D no false).1.2 k = cont s D k := by
  obtain ⟨⟨p, hp, _, hp3⟩, -, -, -, -, -, -, hc, -⟩ := fetch_ok s D no false ok h0 h1 (fetch_err s D no false he)
  by_cases hk : k = no
  · subst hk; rw [cont_pg hp]; exact (hp3 rfl).1
  · exact hc k hk
theorem cont_write {s : Sp} {D : Dev} {no : Int} {u : ByteArray} (ok : SpOk s D) (h0 : 0 ≤ no) (h1 : no < D.nb) (he : (touchS s.arc no).2.2.2 = 0) (k : Int) : cont (setPg (fetchS s D no true).1.1 no ⟨u, true, s.arc.pins no⟩) (fetchS s D no true).1.2 k = if k = no then u else cont s D k := by
  obtain ⟨-, -, -, -, -, -, -, hc, -⟩ := fetch_ok s D no true ok h0 h1 (fetch_err s D no true he)
  rw [cont_set]
  by_cases hk : k = no
  · rw [if_pos hk, if_pos hk]
  · rw [if_neg hk, if_neg hk]; exact hc k hk
theorem cont_pin {s : Sp} {D : Dev} {no : Int} {p : Pg} (hp : s.pg no = some p) (k : Int) : cont (pinDone s no p) D k = cont s D k := by
  unfold cont
  show (match updP s.pg no (some { p with pins := p.pins + 1 }) k with | some q => q.text | none => D.now k) = _
  by_cases h : k = no
  · subst h; rw [updP_same, hp]
  · rw [updP_other _ _ h]; rcases s.pg k with _ | q <;> rfl
theorem cont_unpin {s : Sp} {D : Dev} {no : Int} {p : Pg} (hp : s.pg no = some p) (k : Int) : cont (unpinDone s no p) D k = cont s D k := by
  unfold cont
  show (match updP s.pg no (some { p with pins := p.pins - 1 }) k with | some q => q.text | none => D.now k) = _
  by_cases h : k = no
  · subst h; rw [updP_same, hp]
  · rw [updP_other _ _ h]; rcases s.pg k with _ | q <;> rfl
theorem cont_flush (s : Sp) (D : Dev) (k : Int) : cont s D.flush k = cont s D k := by
  unfold cont
  rcases s.pg k with _ | p
  · exact Dev.now_flush D k
  · rfl
theorem flush_ok {s : Sp} {D : Dev} (ok : SpOk s D) : SpOk s D.flush :=
  ⟨ok.arc, ok.held, ok.pins, ok.cnt, ok.text, ok.key, fun k p hp hd => by rw [Dev.now_flush]; exact ok.clean k p hp hd, ok.dev.flush, ok.up, ok.dead⟩
theorem set_ok {s : Sp} {D : Dev} {no : Int} {p : Pg} {u : ByteArray} (ok : SpOk s D) (hp : s.pg no = some p) (hu : u.size = D.size) : SpOk (setPg s no ⟨u, true, p.pins⟩) D := by
  have PG : ∀ j, (setPg s no ⟨u, true, p.pins⟩).pg j = if j = no then some ⟨u, true, p.pins⟩ else s.pg j := fun j => rfl
  refine ⟨ok.arc, fun j => ?_, fun j q hq => ?_, ok.cnt, fun j q hq => ?_, fun j q hq => ?_, fun j q hq hqd => ?_, ok.dev, ok.up, ok.dead⟩
  · show _ ↔ (j ∈ s.arc.once ∨ j ∈ s.arc.often)
    rw [PG j, ← ok.held j]
    by_cases hj : j = no
    · subst hj; rw [if_pos rfl, hp]; simp
    · rw [if_neg hj]
  all_goals rw [PG j] at hq
  · by_cases hj : j = no
    · subst hj; rw [if_pos rfl] at hq; rw [← Option.some.inj hq]; exact ok.pins j p hp
    · rw [if_neg hj] at hq; exact ok.pins j q hq
  · by_cases hj : j = no
    · subst hj; rw [if_pos rfl] at hq; rw [← Option.some.inj hq]; exact hu
    · rw [if_neg hj] at hq; exact ok.text j q hq
  · by_cases hj : j = no
    · subst hj; exact ok.key j p hp
    · rw [if_neg hj] at hq; exact ok.key j q hq
  · by_cases hj : j = no
    · subst hj; rw [if_pos rfl] at hq; rw [← Option.some.inj hq] at hqd; cases hqd
    · rw [if_neg hj] at hq; exact ok.clean j q hq hqd

/-- what holds of a space in the law between two rounds: no page is pinned -/
structure SameInv (s : Sp) (D : Dev) (m : Nat := 1) : Prop where
  ok : SpOk s D
  nb : D.nb = 24
  ns : D.ns = m
  pins : ∀ k, s.arc.pins k = 0
  size : s.arc.size ≤ 30
theorem SameInv.cnt {s : Sp} {D : Dev} {m : Nat} (h : SameInv s D m) : s.cnt ≤ 30 := by
  rw [h.ok.cnt, heldL_len]
  have a := h.ok.arc.held
  have b := h.size
  omega
theorem SameInv.free {s : Sp} {D : Dev} {m : Nat} (h : SameInv s D m) (no : Int) : (touchS s.arc no).2.2.2 = 0 := touch_free h.ok.arc h.pins no
theorem SameInv.read {s : Sp} {D : Dev} {m : Nat} (h : SameInv s D m) {no : Int} (h0 : 0 ≤ no) (h1 : no < 24) : SameInv (fetchS s D no false).1.1 (fetchS s D no false).1.2 m ∧ ∀ k, cont (fetchS s D no false).1.1 (fetchS s D no false).1.2 k = cont s D k := by
  have h1' : no < D.nb := by rw [h.nb]; exact h1
  have he := h.free no
  obtain ⟨-, a1, -, -, a4, a5, a6, -, -⟩ := fetch_ok s D no false h.ok h0 h1' (fetch_err s D no false he)
  exact ⟨⟨read_ok h.ok h0 h1' he, a5.trans h.nb, a6.trans h.ns, fun k => by rw [a1]; exact h.pins k, by rw [a4]; exact h.size⟩, cont_read h.ok h0 h1' he⟩
theorem SameInv.write {s : Sp} {D : Dev} {m : Nat} (h : SameInv s D m) {no : Int} {u : ByteArray} (h0 : 0 ≤ no) (h1 : no < 24) (hu : u.size = D.size) : SameInv (setPg (fetchS s D no true).1.1 no ⟨u, true, s.arc.pins no⟩) (fetchS s D no true).1.2 m ∧ ∀ k, cont (setPg (fetchS s D no true).1.1 no ⟨u, true, s.arc.pins no⟩) (fetchS s D no true).1.2 k = if k = no then u else cont s D k := by
  have h1' : no < D.nb := by rw [h.nb]; exact h1
  have he := h.free no
  obtain ⟨-, a1, -, -, a4, a5, a6, -, -⟩ := fetch_ok s D no true h.ok h0 h1' (fetch_err s D no true he)
  exact ⟨⟨write_ok h.ok h0 h1' he hu, a5.trans h.nb, a6.trans h.ns, fun k => by show (fetchS s D no true).1.1.arc.pins k = 0; rw [a1]; exact h.pins k, by show (fetchS s D no true).1.1.arc.size ≤ 30; rw [a4]; exact h.size⟩, cont_write h.ok h0 h1' he⟩
theorem SameInv.flush {s : Sp} {D : Dev} {m : Nat} (h : SameInv s D m) (ks : List Int) : SameInv (stS s D ks).1 (stS s D ks).2.flush m ∧ ∀ k, cont (stS s D ks).1 (stS s D ks).2.flush k = cont s D k := by
  have w := stS_ok h.ok ks
  exact ⟨⟨flush_ok w.ok, w.nb.trans h.nb, w.ns.trans h.ns, fun k => by rw [w.arc]; exact h.pins k, by rw [w.arc]; exact h.size⟩, fun k => by rw [cont_flush]; exact w.cont k⟩
/-- a page pinned, set, and let go -/
theorem SameInv.set3 {s : Sp} {D : Dev} {m : Nat} (h : SameInv s D m) {no : Int} {u : ByteArray} {p : Pg} (h0 : 0 ≤ no) (h1 : no < 24) (hu : u.size = D.size) (hp : (fetchS s D no false).1.1.pg no = some p) :
    p.pins = 0 ∧ SpOk (pinDone (fetchS s D no false).1.1 no p) (fetchS s D no false).1.2 ∧ (pinDone (fetchS s D no false).1.1 no p).pg no = some { p with pins := p.pins + 1 } ∧
    SpOk (setPg (pinDone (fetchS s D no false).1.1 no p) no ⟨u, true, p.pins + 1⟩) (fetchS s D no false).1.2 ∧ (setPg (pinDone (fetchS s D no false).1.1 no p) no ⟨u, true, p.pins + 1⟩).pg no = some ⟨u, true, p.pins + 1⟩ ∧ 0 < (setPg (pinDone (fetchS s D no false).1.1 no p) no ⟨u, true, p.pins + 1⟩).pinned ∧
    SameInv (unpinDone (setPg (pinDone (fetchS s D no false).1.1 no p) no ⟨u, true, p.pins + 1⟩) no ⟨u, true, p.pins + 1⟩) (fetchS s D no false).1.2 m ∧
    ∀ k, cont (unpinDone (setPg (pinDone (fetchS s D no false).1.1 no p) no ⟨u, true, p.pins + 1⟩) no ⟨u, true, p.pins + 1⟩) (fetchS s D no false).1.2 k = if k = no then u else cont s D k := by
  obtain ⟨R, C⟩ := h.read h0 h1
  have hsz : (fetchS s D no false).1.2.size = D.size := by unfold Dev.size; rw [R.ns, h.ns]
  generalize (fetchS s D no false).1 = r at R C hp hsz ⊢
  obtain ⟨s1, D1⟩ := r
  dsimp only at R C hp hsz ⊢
  have hz : p.pins = 0 := by rw [R.ok.pins no p hp]; exact R.pins no
  have k1 := pin_ok R.ok hp
  have g1 : (pinDone s1 no p).pg no = some { p with pins := p.pins + 1 } := updP_same _ _ _
  have k2 := set_ok (u := u) k1 g1 (by rw [hsz]; exact hu)
  have g2 : (setPg (pinDone s1 no p) no ⟨u, true, p.pins + 1⟩).pg no = some ⟨u, true, p.pins + 1⟩ := updP_same _ _ _
  have k3 := unpin_ok k2 g2
  refine ⟨hz, k1, g1, k2, g2, ?_, ⟨k3, R.nb, R.ns, fun k => ?_, R.size⟩, fun k => ?_⟩
  · show 0 < (if p.pins = 0 then s1.pinned + 1 else s1.pinned)
    rw [if_pos hz]; omega
  · show (if k = no then (if no = no then s1.arc.pins no + 1 else s1.arc.pins no) - 1 else (if k = no then s1.arc.pins no + 1 else s1.arc.pins k)) = 0
    rw [if_pos rfl, R.pins no]
    by_cases hk : k = no
    · rw [if_pos hk]
    · rw [if_neg hk, if_neg hk]; exact R.pins k
  · rw [cont_unpin g2, cont_set]
    by_cases hk : k = no
    · rw [if_pos hk, if_pos hk]
    · rw [if_neg hk, if_neg hk, cont_pin hp]; exact C k

/-- the colours of a space of the law's -/
def SPC (c0 d0 e0 : Nat) : Nat → Prop := fun e => PC c0 d0 e ∨ EC e0 e ∨ e = 45

end Go.Proofs.YtbgbomlmgkgkoaaGreat.arcI
