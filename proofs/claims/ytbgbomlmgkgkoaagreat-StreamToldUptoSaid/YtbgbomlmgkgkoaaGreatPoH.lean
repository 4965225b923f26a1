/- pool: the plain law of pins: how many pages are pinned, and when a page is refused. -/
import Derived.Test.YtbgbomlmgkgkoaaGreatPoG
namespace Go.Proofs.YtbgbomlmgkgkoaaGreat.arcI
open Go.RowKit Go.Proofs.YtbgbomlmgkgkoaaGreat.own Go.Proofs.YtbgbomlmgkgkoaaGreat.dv Go.Proofs.YtbgbomlmgkgkoaaGreat.po

/-- how many of the first k blocks are pinned -/
def cntTo (p : Int → Nat) : Nat → Nat
  | 0 => 0
  | k + 1 => cntTo p k + (if 0 < p (k : Int) then 1 else 0)
theorem cntTo_upd (p p' : Int → Nat) (m : Nat) (h : ∀ k : Nat, k ≠ m → p' (k : Int) = p (k : Int)) : ∀ k, cntTo p' k + (if m < k ∧ 0 < p (m : Int) then 1 else 0) = cntTo p k + (if m < k ∧ 0 < p' (m : Int) then 1 else 0)
  | 0 => by simp [cntTo]
  | k + 1 => by
    have ih := cntTo_upd p p' m h k
    unfold cntTo
    by_cases hk : k = m
    · subst hk
      have a1 : ¬ (k < k ∧ 0 < p (k : Int)) := by omega
      have a2 : ¬ (k < k ∧ 0 < p' (k : Int)) := by omega
      rw [if_neg a1, if_neg a2] at ih
      have e : k < k + 1 := by omega
      simp only [e, true_and]
      omega
    · rw [h k hk]
      have e1 : (m < k + 1 ∧ 0 < p (m : Int)) ↔ (m < k ∧ 0 < p (m : Int)) := by constructor <;> intro hh <;> exact ⟨by omega, hh.2⟩
      have e2 : (m < k + 1 ∧ 0 < p' (m : Int)) ↔ (m < k ∧ 0 < p' (m : Int)) := by constructor <;> intro hh <;> exact ⟨by omega, hh.2⟩
      simp only [e1, e2]
      omega
theorem cntTo_same {p p' : Int → Nat} (h : ∀ k : Nat, (0 < p' (k : Int)) ↔ (0 < p (k : Int))) : ∀ k, cntTo p' k = cntTo p k
  | 0 => rfl
  | k + 1 => by
    unfold cntTo
    rw [cntTo_same h k]
    by_cases hk : 0 < p (k : Int)
    · rw [if_pos hk, if_pos ((h k).2 hk)]
    · rw [if_neg hk, if_neg (fun hh => hk ((h k).1 hh))]
def pinL (p : Int → Nat) (k : Nat) : List Int := ((List.range k).filter fun (j : Nat) => decide (0 < p (j : Int))).map fun (j : Nat) => (j : Int)
theorem pinL_len (p : Int → Nat) : ∀ k, (pinL p k).length = cntTo p k
  | 0 => rfl
  | k + 1 => by
    have ih := pinL_len p k
    unfold pinL at ih ⊢
    rw [List.length_map] at ih ⊢
    rw [List.range_succ, List.filter_append, List.length_append, ih]
    show _ = cntTo p k + (if 0 < p (k : Int) then 1 else 0)
    by_cases h : 0 < p (k : Int) <;> simp [h]
theorem mem_pinL (p : Int → Nat) (k : Nat) (a : Int) : a ∈ pinL p k ↔ ∃ j : Nat, j < k ∧ 0 < p (j : Int) ∧ (j : Int) = a := by
  unfold pinL
  simp only [List.mem_map, List.mem_filter, List.mem_range, decide_eq_true_eq]
  constructor
  · rintro ⟨j, ⟨h1, h2⟩, h3⟩; exact ⟨j, h1, h2, h3⟩
  · rintro ⟨j, h1, h2, h3⟩; exact ⟨j, ⟨h1, h2⟩, h3⟩
theorem pinL_nodup (p : Int → Nat) (k : Nat) : (pinL p k).Nodup := by
  unfold pinL
  have h : (List.filter (fun (j : Nat) => decide (0 < p (j : Int))) (List.range k)).Pairwise (· ≠ ·) := List.Pairwise.filter _ List.nodup_range
  exact List.pairwise_map.2 (h.imp (fun hne e => hne (by omega)))
theorem len_sub : ∀ {l m : List Int}, l.Nodup → (∀ a ∈ l, a ∈ m) → l.length ≤ m.length
  | [], _, _, _ => Nat.zero_le _
  | a :: l, m, hn, h => by
    have ha := h a List.mem_cons_self
    have hl := List.nodup_cons.1 hn
    have := len_sub (l := l) (m := m.erase a) hl.2 (fun b hb => (List.mem_erase_of_ne (fun e => hl.1 (by rw [← e]; exact hb))).2 (h b (List.mem_cons_of_mem _ hb)))
    have e := len_erase ha
    rw [List.length_cons]
    omega
theorem sub_all {l m : List Int} (hn : l.Nodup) (h : ∀ a ∈ l, a ∈ m) (hlen : m.length ≤ l.length) : ∀ a ∈ m, a ∈ l := by
  intro a ha
  refine Decidable.byContradiction fun hna => ?_
  have := len_sub (l := l) (m := m.erase a) hn (fun b hb => (List.mem_erase_of_ne (fun e => hna (by rw [← e]; exact hb))).2 (h b hb))
  have e := len_erase ha
  omega

/-- what holds of a space in the law -/
structure PinInv (s : Sp) (D : Dev) (fr : Nat) : Prop where
  ok : SpOk s D
  nb : D.nb = 24
  size : s.arc.size = fr
  cnt : s.pinned = cntTo s.arc.pins 24
  le : s.pinned ≤ s.most
  most : s.most ≤ fr
theorem PinInv.sub {s : Sp} {D : Dev} {fr : Nat} (h : PinInv s D fr) : ∀ a ∈ pinL s.arc.pins 24, a ∈ heldL s.arc := fun a ha => by
  obtain ⟨j, _, h2, rfl⟩ := (mem_pinL _ _ _).1 ha
  exact (mem_heldL _ _).2 (h.ok.arc.pinned _ h2)
theorem PinInv.held {s : Sp} {D : Dev} {fr : Nat} (h : PinInv s D fr) : s.cnt ≤ fr := by
  rw [h.ok.cnt, heldL_len]
  have := h.ok.arc.held
  rw [h.size] at this; exact this
theorem SpOk.cnt_le {s : Sp} {D : Dev} (ok : SpOk s D) (k : Nat) : cntTo s.arc.pins k ≤ s.cnt := by
  rw [← pinL_len, ok.cnt]
  exact len_sub (pinL_nodup _ _) (fun a ha => by
    obtain ⟨j, _, h2, rfl⟩ := (mem_pinL _ _ _).1 ha
    exact (mem_heldL _ _).2 (ok.arc.pinned _ h2))

/-- a page is refused just if all frames are pinned, and it is none of these -/
theorem refuse_iff {s : Sp} {D : Dev} {fr : Nat} (h : PinInv s D fr) (n : Int) : (touchS s.arc n).2.2.2 = if cntTo s.arc.pins 24 = fr ∧ s.arc.pins n = 0 then 13 else 0 := by
  have hsub := h.sub
  have hhl : (heldL s.arc).length ≤ fr := by have := h.held; rw [h.ok.cnt] at this; exact this
  by_cases hc : cntTo s.arc.pins 24 = fr ∧ s.arc.pins n = 0
  · rw [if_pos hc]
    have hall := sub_all (pinL_nodup s.arc.pins 24) hsub (by rw [pinL_len, hc.1]; exact hhl)
    have hge : fr ≤ (heldL s.arc).length := by rw [← hc.1, ← pinL_len]; exact len_sub (pinL_nodup _ _) hsub
    have pin : ∀ a, a ∈ s.arc.once ∨ a ∈ s.arc.often → 0 < s.arc.pins a := fun a ha => by
      obtain ⟨j, _, h2, rfl⟩ := (mem_pinL _ _ _).1 (hall a ((mem_heldL _ _).2 ha))
      exact h2
    have hn : ¬ (n ∈ s.arc.once ∨ n ∈ s.arc.often) := fun hh => by have := pin n hh; omega
    have hst : stuck s.arc = true := by
      have f1 : freeK s.arc.pins s.arc.once = none := List.find?_eq_none.2 (fun a ha => by have := pin a (.inl ha); simp; omega)
      have f2 : freeK s.arc.pins s.arc.often = none := List.find?_eq_none.2 (fun a ha => by have := pin a (.inr ha); simp; omega)
      have f3 : isFull s.arc = true := by
        unfold isFull
        rw [heldL_len] at hhl hge
        rw [h.size]
        exact decide_eq_true (by omega)
      unfold stuck
      rw [f1, f2, f3]; rfl
    unfold touchS
    rw [if_neg hn, if_pos hst]
  · rw [if_neg hc]
    refine Decidable.byContradiction fun he => hc ?_
    have hk : ∃ k, k = n := ⟨n, rfl⟩
    unfold touchS at he
    by_cases c1 : n ∈ s.arc.once ∨ n ∈ s.arc.often
    · rw [if_pos c1] at he; exact absurd rfl he
    · rw [if_neg c1] at he
      have hpn : s.arc.pins n = 0 := by
        rcases Nat.eq_zero_or_pos (s.arc.pins n) with hz | hz
        · exact hz
        · exact absurd (h.ok.arc.pinned n hz) c1
      by_cases c2 : stuck s.arc = true
      · refine ⟨?_, hpn⟩
        have hp := free_none c2
        have hf : isFull s.arc = true := by unfold stuck at c2; simp only [Bool.and_eq_true] at c2; exact c2.1.1
        have hf2 : s.arc.once.length + s.arc.often.length = s.arc.size := by simpa [isFull] using hf
        have hle := h.ok.cnt_le 24
        have := len_sub (l := heldL s.arc) (m := pinL s.arc.pins 24) (heldL_nodup h.ok.arc) (fun a ha => by
          have ha' := (mem_heldL _ _).1 ha
          obtain ⟨p, hpg⟩ := Option.isSome_iff_exists.1 ((h.ok.held a).2 ha')
          have hkey := h.ok.key a p hpg
          rw [h.nb] at hkey
          exact (mem_pinL _ _ _).2 ⟨a.toNat, by omega, by have := hp a ha'; rwa [Int.toNat_of_nonneg hkey.1], Int.toNat_of_nonneg hkey.1⟩)
        rw [pinL_len, heldL_len] at this
        have hh := h.held
        have hsz := h.size
        omega
      · rw [if_neg c2] at he
        by_cases c3 : n ∈ s.arc.wonce
        · rw [if_pos c3] at he; exact absurd rfl he
        · rw [if_neg c3] at he
          by_cases c4 : n ∈ s.arc.woften
          · rw [if_pos c4] at he; exact absurd rfl he
          · rw [if_neg c4] at he; exact absurd rfl he

theorem updP_id {α : Type} {f : Int → Option α} {k : Int} {v : α} (h : f k = some v) : updP f k (some v) = f := by
  funext x
  by_cases hx : x = k
  · subst hx; rw [updP_same, h]
  · rw [updP_other _ _ hx]
theorem setPg_id {s : Sp} {k : Int} {p : Pg} (h : s.pg k = some p) : setPg s k p = s := by
  unfold setPg; rw [updP_id h]

theorem fetch_err (s : Sp) (D : Dev) (no : Int) (whole : Bool) (he : (touchS s.arc no).2.2.2 = 0) : (fetchS s D no whole).2 = 0 := by unfold fetchS; rw [if_pos he]; split <;> rfl

theorem read_ok {s : Sp} {D : Dev} {no : Int} (ok : SpOk s D) (h0 : 0 ≤ no) (h1 : no < D.nb) (he : (touchS s.arc no).2.2.2 = 0) : SpOk (fetchS s D no false).1.1 (fetchS s D no false).1.2 := by
  obtain ⟨⟨p, hp, hp2, hp3⟩, -, -, -, -, -, -, -, hok⟩ := fetch_ok s D no false ok h0 h1 (fetch_err s D no false he)
  have := hok p hp2 (by rw [(hp3 rfl).1]; exact cont_size ok no) (fun hd => (hp3 rfl).2 hd)
  rwa [setPg_id hp] at this
theorem write_ok {s : Sp} {D : Dev} {no : Int} {u : ByteArray} (ok : SpOk s D) (h0 : 0 ≤ no) (h1 : no < D.nb) (he : (touchS s.arc no).2.2.2 = 0) (hu : u.size = D.size) : SpOk (setPg (fetchS s D no true).1.1 no ⟨u, true, s.arc.pins no⟩) (fetchS s D no true).1.2 :=
  (fetch_ok s D no true ok h0 h1 (fetch_err s D no true he)).2.2.2.2.2.2.2.2 ⟨u, true, s.arc.pins no⟩ rfl hu (fun h => by cases h)

/-- the pins of a page of a good space turned -/
theorem pins_ok {s : Sp} {D : Dev} {no : Int} {p : Pg} (ok : SpOk s D) (hp : s.pg no = some p) (a : St) (v : Nat) (ha : Ok a) (e1 : a.once = s.arc.once) (e2 : a.often = s.arc.often) (e3 : a.pins no = v) (e4 : ∀ k, k ≠ no → a.pins k = s.arc.pins k) (q m : Nat) :
    SpOk { s with pg := updP s.pg no (some { p with pins := v }), arc := a, pinned := q, most := m } D := by
  refine ⟨ha, fun k => ?_, fun k u hu => ?_, ?_, fun k u hu => ?_, fun k u hu => ?_, fun k u hu => ?_, ok.dev, ok.up, ok.dead⟩
  · show (updP s.pg no (some { p with pins := v }) k).isSome = true ↔ (k ∈ a.once ∨ k ∈ a.often)
    rw [e1, e2, ← ok.held k]
    by_cases hk : k = no
    · subst hk; rw [updP_same, hp]; simp
    · rw [updP_other _ _ hk]
  · have hu : updP s.pg no (some { p with pins := v }) k = some u := hu
    show u.pins = a.pins k
    by_cases hk : k = no
    · subst hk; rw [updP_same] at hu; rw [← Option.some.inj hu]; exact e3.symm
    · rw [updP_other _ _ hk] at hu; rw [e4 k hk]; exact ok.pins k u hu
  · show s.cnt = (heldL a).length
    unfold heldL
    rw [e1, e2]; exact ok.cnt
  · have hu : updP s.pg no (some { p with pins := v }) k = some u := hu
    by_cases hk : k = no
    · subst hk; rw [updP_same] at hu; rw [← Option.some.inj hu]; exact ok.text k p hp
    · rw [updP_other _ _ hk] at hu; exact ok.text k u hu
  · have hu : updP s.pg no (some { p with pins := v }) k = some u := hu
    by_cases hk : k = no
    · subst hk; exact ok.key k p hp
    · rw [updP_other _ _ hk] at hu; exact ok.key k u hu
  · have hu : updP s.pg no (some { p with pins := v }) k = some u := hu
    by_cases hk : k = no
    · subst hk; rw [updP_same] at hu; rw [← Option.some.inj hu]; exact ok.clean k p hp
    · rw [updP_other _ _ hk] at hu; exact ok.clean k u hu
theorem pin_ok {s : Sp} {D : Dev} {no : Int} {p : Pg} (ok : SpOk s D) (hp : s.pg no = some p) : SpOk (pinDone s no p) D := by
  have ha := (ok.held no).1 (by rw [hp]; rfl)
  exact pins_ok ok hp (pinS s.arc no) (p.pins + 1) (pinS_ok s.arc no ok.arc ha) rfl rfl (by unfold pinS; show (if no = no then _ else _) = _; rw [if_pos rfl, ok.pins no p hp]) (fun k hk => by unfold pinS; exact if_neg hk) _ _
theorem unpin_ok {s : Sp} {D : Dev} {no : Int} {p : Pg} (ok : SpOk s D) (hp : s.pg no = some p) : SpOk (unpinDone s no p) D := by
  have ha := (ok.held no).1 (by rw [hp]; rfl)
  exact pins_ok ok hp (unpinS s.arc no) (p.pins - 1) (unpinS_ok s.arc no ok.arc ha) rfl rfl (by unfold unpinS; show (if no = no then _ else _) = _; rw [if_pos rfl, ok.pins no p hp]) (fun k hk => by unfold unpinS; exact if_neg hk) _ _

theorem PinInv.read {s : Sp} {D : Dev} {fr : Nat} (h : PinInv s D fr) {no : Int} (h0 : 0 ≤ no) (h1 : no < 24) (he : (touchS s.arc no).2.2.2 = 0) : PinInv (fetchS s D no false).1.1 (fetchS s D no false).1.2 fr ∧ (fetchS s D no false).1.1.arc.pins = s.arc.pins := by
  have h1' : no < D.nb := by rw [h.nb]; exact h1
  obtain ⟨-, a1, a2, a3, a4, a5, -, -, -⟩ := fetch_ok s D no false h.ok h0 h1' (fetch_err s D no false he)
  exact ⟨⟨read_ok h.ok h0 h1' he, by rw [a5]; exact h.nb, by rw [a4]; exact h.size, by rw [a2, a1]; exact h.cnt, by rw [a2, a3]; exact h.le, by rw [a3]; exact h.most⟩, a1⟩
theorem PinInv.write {s : Sp} {D : Dev} {fr : Nat} (h : PinInv s D fr) {no : Int} {u : ByteArray} (h0 : 0 ≤ no) (h1 : no < 24) (he : (touchS s.arc no).2.2.2 = 0) (hu : u.size = D.size) : PinInv (setPg (fetchS s D no true).1.1 no ⟨u, true, s.arc.pins no⟩) (fetchS s D no true).1.2 fr ∧ (fetchS s D no true).1.1.arc.pins = s.arc.pins := by
  have h1' : no < D.nb := by rw [h.nb]; exact h1
  obtain ⟨-, a1, a2, a3, a4, a5, -, -, -⟩ := fetch_ok s D no true h.ok h0 h1' (fetch_err s D no true he)
  exact ⟨⟨write_ok h.ok h0 h1' he hu, by rw [a5]; exact h.nb, a4.trans h.size, by show (fetchS s D no true).1.1.pinned = cntTo (fetchS s D no true).1.1.arc.pins 24; rw [a2, a1]; exact h.cnt, by show (fetchS s D no true).1.1.pinned ≤ (fetchS s D no true).1.1.most; rw [a2, a3]; exact h.le, by show (fetchS s D no true).1.1.most ≤ fr; rw [a3]; exact h.most⟩, a1⟩
theorem cnt_pin {s : Sp} {D : Dev} {no : Int} {p : Pg} (ok : SpOk s D) (h0 : 0 ≤ no) (h1 : no < 24) (hp : s.pg no = some p) : cntTo (pinS s.arc no).pins 24 = cntTo s.arc.pins 24 + (if p.pins = 0 then 1 else 0) := by
  have hpp := ok.pins no p hp
  have e := cntTo_upd s.arc.pins (pinS s.arc no).pins no.toNat (fun k hk => by unfold pinS; exact if_neg (fun e => hk (by have e : (k : Int) = no := e; omega))) 24
  rw [Int.toNat_of_nonneg h0] at e
  have hv : (pinS s.arc no).pins no = s.arc.pins no + 1 := by unfold pinS; exact if_pos rfl
  rw [hv, ← hpp] at e
  have hlt : no.toNat < 24 := by omega
  simp only [hlt, true_and] at e
  by_cases hz : p.pins = 0
  · rw [hz] at e; simp at e; rw [if_pos hz]; exact e
  · rw [if_pos (by omega : 0 < p.pins)] at e; simp at e; rw [if_neg hz]; omega
theorem cnt_unpin {s : Sp} {D : Dev} {no : Int} {p : Pg} (ok : SpOk s D) (h0 : 0 ≤ no) (h1 : no < 24) (hp : s.pg no = some p) (hz : 0 < p.pins) : cntTo (unpinS s.arc no).pins 24 + (if p.pins = 1 then 1 else 0) = cntTo s.arc.pins 24 := by
  have hpp := ok.pins no p hp
  have e := cntTo_upd s.arc.pins (unpinS s.arc no).pins no.toNat (fun k hk => by unfold unpinS; exact if_neg (fun e => hk (by have e : (k : Int) = no := e; omega))) 24
  rw [Int.toNat_of_nonneg h0] at e
  have hv : (unpinS s.arc no).pins no = s.arc.pins no - 1 := by unfold unpinS; exact if_pos rfl
  rw [hv, ← hpp] at e
  have hlt : no.toNat < 24 := by omega
  simp only [hlt, true_and] at e
  rw [if_pos hz] at e
  by_cases h1 : p.pins = 1
  · rw [h1] at e; simp at e; rw [if_pos h1]; exact e
  · rw [if_pos (by omega : 0 < p.pins - 1)] at e; rw [if_neg h1]; omega
theorem PinInv.pin {s : Sp} {D : Dev} {fr : Nat} (h : PinInv s D fr) {no : Int} {p : Pg} (h0 : 0 ≤ no) (h1 : no < 24) (hp : s.pg no = some p) : PinInv (pinDone s no p) D fr := by
  have ok := pin_ok h.ok hp
  have hc := cnt_pin h.ok h0 h1 hp
  have hcl := ok.cnt_le 24
  have hheld : (pinDone s no p).cnt ≤ fr := h.held
  have hce : cntTo (pinDone s no p).arc.pins 24 = cntTo s.arc.pins 24 + (if p.pins = 0 then 1 else 0) := hc
  have hpn : (pinDone s no p).pinned = if p.pins = 0 then s.pinned + 1 else s.pinned := rfl
  have hms : (pinDone s no p).most = if p.pins = 0 then max s.most (s.pinned + 1) else s.most := rfl
  have hcn := h.cnt
  have hle := h.le
  have hmo := h.most
  refine ⟨ok, h.nb, h.size, ?_, ?_, ?_⟩
  · rw [hpn, hce]
    split <;> omega
  · rw [hpn, hms]
    split <;> omega
  · rw [hms]
    rw [hce] at hcl
    by_cases hz : p.pins = 0
    · rw [if_pos hz] at hcl ⊢; omega
    · rw [if_neg hz]; omega
theorem PinInv.unpin {s : Sp} {D : Dev} {fr : Nat} (h : PinInv s D fr) {no : Int} {p : Pg} (h0 : 0 ≤ no) (h1 : no < 24) (hp : s.pg no = some p) (hz : 0 < p.pins) : PinInv (unpinDone s no p) D fr ∧ (p.pins = 1 → 0 < s.pinned) := by
  have ok := unpin_ok h.ok hp
  have hc := cnt_unpin h.ok h0 h1 hp hz
  have hce : cntTo (unpinDone s no p).arc.pins 24 + (if p.pins = 1 then 1 else 0) = cntTo s.arc.pins 24 := hc
  have hpn : (unpinDone s no p).pinned = if p.pins = 1 then s.pinned - 1 else s.pinned := rfl
  have hms : (unpinDone s no p).most = s.most := rfl
  have hcn := h.cnt
  have hle := h.le
  have hmo := h.most
  refine ⟨⟨ok, h.nb, h.size, ?_, ?_, by rw [hms]; exact hmo⟩, fun h1 => by rw [if_pos h1] at hce; omega⟩
  · rw [hpn]
    by_cases h1 : p.pins = 1
    · rw [if_pos h1] at hce ⊢; omega
    · rw [if_neg h1] at hce ⊢; omega
  · rw [hpn, hms]
    split <;> omega

end Go.Proofs.YtbgbomlmgkgkoaaGreat.arcI
