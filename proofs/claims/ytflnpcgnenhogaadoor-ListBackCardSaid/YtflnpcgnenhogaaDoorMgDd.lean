/- list: Decode: what it holds, and what it tells (plain). list: Decode, plain: what is told by what was taken. list: Decode, walked. list's laws: same, own. list's laws: a list of Ones that came in; what the law of there and back holds on its way. list's laws: the law of there and back: a writer, a reader, two rows of the law's own, rows beside. -/
import Derived.Test.YtflnpcgnenhogaaDoorMgDc
namespace Go.Proofs.YtflnpcgnenhogaaDoor.ls
open Go.RowKit Go.Proofs.YtflnpcgnenhogaaDoor.own Go.Proofs.YtflnpcgnenhogaaDoor.bit

theorem TK.start {x : Nat → Nat} {d t u : Nat} {w W : World} {rb a : Nat} {s : ByteArray} {ks : List (Nat × Obj)} (h : RE x d t u w rb s a ks W) :
    TK x d t u w rb W.heap.size s a false ks (W.alloc (.cells #[.pointer (some ⟨rb, 0, none⟩), .bool false] 101)) :=
  ⟨h.keep _ _, fun p hp => by have := lt_of_block (h.row (b := p.1) (o := p.2) hp); omega⟩
/-- a call that turns nothing but what bears the reader's colour -/
theorem TR.turn {x : Nat → Nat} {d t u : Nat} (hdu : d ≠ u) {w W : World} {rb qb a : Nat} {s : ByteArray} {bad : Bool} {ks : List (Nat × Obj)} {l : List Nat} {v : Value} (h : TR x d t u w rb qb s a bad ks l v W) {f : Nat} {args : Array Value} {P : Ending → Prop} {a2 : Nat}
    (hc : ∀ x', Fr x x' (fun e => e = d ∨ e = t ∨ e = u) w W → RdC x' d W rb s a → (∀ g, v.ownBlock = some g → x' g = u) → Calls Tryd.prog f args W fun en w' => P en ∧ ∃ x2, Fr x' x2 (fun c => c = d) W w' ∧ RdC x2 d w' rb s a2) :
    Calls Tryd.prog f args W fun en w' => P en ∧ TR x d t u w rb qb s a2 bad ks l v w' := by
  obtain ⟨h1, ks', h2, h3, h4, ⟨x', hf, hr, hk⟩, h6⟩ := h
  have hg : ∀ g, v.ownBlock = some g → x' g = u := fun g e => by
    obtain ⟨o, ho⟩ := h2 g e
    exact (hk _ (List.mem_cons_of_mem _ (List.mem_append_left _ ho))).1
  refine (hc x' hf hr hg).mono ?_
  rintro en w' ⟨hp, x2, f2, hr2⟩
  have old : ∀ b, b < W.heap.size → x' b = u → w'.heap[b]? = W.heap[b]? := fun b hb e => f2.old b hb (by rw [e]; exact fun e2 => hdu e2.symm)
  refine ⟨hp, own_same h1 (fun g e => old g ?_ (hg g e)), ks', h2, h3, h4, ⟨x2, hf.trans (f2.mono (fun c hc => .inl hc)), hr2, fun p hp => ?_⟩, h6⟩
  · obtain ⟨o, ho⟩ := own_block h1 e
    exact lt_of_block ho
  · obtain ⟨h7, h8⟩ := hk p hp
    exact ⟨(f2.col _ (lt_of_block h8)).trans h7, (old _ (lt_of_block h8) h7).trans h8⟩
theorem TR.seek {x : Nat → Nat} {d t u : Nat} (hdu : d ≠ u) {w W : World} {rb qb a : Nat} {s : ByteArray} {bad : Bool} {ks : List (Nat × Obj)} {l : List Nat} {v : Value} (h : TR x d t u w rb qb s a bad ks l v W) (a0 : Nat) (ha : a0 ≤ 8 * s.size) :
    Calls Tryd.prog 40 #[.pointer (some ⟨rb, 0, none⟩), .int .i64 (a0 : Int)] W fun en w' => en = .returned (.int .i64 0) ∧ TR x d t u w rb qb s a0 bad ks l v w' :=
  h.turn hdu (P := fun en => en = .returned (.int .i64 0)) (fun x' _ hr _ => (Seek_any x' d s a a0 rb W hr ha).mono (by
    rintro e w' ⟨rfl, f2, h2⟩
    exact ⟨rfl, x', f2, h2⟩))
theorem TR.lv {x : Nat → Nat} {d t u : Nat} {w W : World} {rb qb a : Nat} {s : ByteArray} {bad : Bool} {ks : List (Nat × Obj)} {l : List Nat} {v : Value} (h : TR x d t u w rb qb s a bad ks l v W) (hl : l.length ≤ 200000) (hb : ∀ v ∈ l, v < 65536) : ∃ al cap, v = .slice al l.length cap ∧ l.length ≤ cap ∧ LV W al l :=
  lv_own (by omega) (fun u hu => by have := hb u hu; omega) h.1
theorem TR.anew {x : Nat → Nat} {d t u : Nat} (hdu : d ≠ u) {w W : World} (hG : GL w) (hgl : GlC x d t u) {rb qb e : Nat} {s : ByteArray} {bad : Bool} {ks : List (Nat × Obj)} {l : List Nat} {al : Option Addr} {cap : Nat} (h : TR x d t u w rb qb s e bad ks l (.slice al l.length cap) W) (at_ : Nat) (hat : at_ ≤ e)
    (xv deg r : Nat) (p : Pr) (hcap : l.length ≤ cap) (hL : LV W al l) (bl : Option Addr) (ref : List Nat) (capb : Nat) (hcapb : ref.length ≤ capb) (hR : LV w bl ref) (hRc : Apt x d t u bl ref) (hm : MayN xv l ref r p) :
    Calls Tryd.prog 44 #[parV (p.win : Int) (p.itv : Int) (p.zet : Int), .pointer (some ⟨rb, 0, none⟩), .int .i64 (at_ : Int), .int .i64 (xv : Int), .agg #[.int .i64 (deg : Int), .int .i64 (r : Int)], .slice al l.length cap, .slice bl ref.length capb] W fun en w' =>
      en = .returned (.bool (decide (bitsOf (tlN xv l ref r p) = ((unpack (nats s)).drop at_).take (e - at_)))) ∧ TR x d t u w rb qb s e bad ks l (.slice al l.length cap) w' := by
  have hGW := h.re.gl hG hgl
  have hRW := h.re.lv hR hRc
  refine h.turn hdu (P := fun en => en = _) (fun x' hf hr hg => anew_any x' d W hGW ?_ rb s at_ e hr hat xv deg r p al l cap hcap hL ?_ bl ref capb hcapb hRW ?_ hm)
  · have l0 := World.block_lt_of_cell? _ _ hG.g0
    have l1 := World.block_lt_of_cell? _ _ hG.u0
    rw [hf.col 0 l0, hf.col 1 l1]
    exact ⟨hgl.1, hgl.2.2.2.1⟩
  · intro g o e _
    rw [hg g (by rw [e]; rfl)]
    exact fun e => hdu e.symm
  · intro g o e h0
    obtain ⟨g', o', e', hlt, _⟩ := hR.2 0 h0
    rw [e] at e'
    injection e' with e'
    injection e' with e1 e2
    subst e1
    rw [hf.col g hlt]
    exact fun e2 => hRc g o e h0 (.inl e2)
/-- a reader, a list of one's own, rows beside -/
def RR (x : Nat → Nat) (d t u : Nat) (w : World) (rb : Nat) (s : ByteArray) (a : Nat) (ks : List (Nat × Obj)) (l : List Nat) (v : Value) (W : World) : Prop :=
  W.ownsRow 0 60 1 v l.length (u32V l) ∧ ∃ ks', (∀ g, v.ownBlock = some g → ∃ o, (g, o) ∈ ks') ∧ (∀ p ∈ ks', some p.1 = v.ownBlock) ∧ (∀ p ∈ ks, some p.1 ≠ v.ownBlock) ∧ RE x d t u w rb s a (ks' ++ ks) W
theorem TR.rr {x : Nat → Nat} {d t u : Nat} {w W : World} {rb qb a : Nat} {s : ByteArray} {bad : Bool} {ks : List (Nat × Obj)} {l : List Nat} {v : Value} (h : TR x d t u w rb qb s a bad ks l v W) : RR x d t u w rb s a ks l v W := by
  obtain ⟨h1, ks', h2, h3, h4, h5, h6⟩ := h
  exact ⟨h1, ks', h2, h3, h4, h5.sub (fun p hp => List.mem_cons_of_mem _ hp)⟩
theorem RR.nil {x : Nat → Nat} {d t u : Nat} {w W : World} {rb a : Nat} {s : ByteArray} {ks : List (Nat × Obj)} (h : RE x d t u w rb s a ks W) : RR x d t u w rb s a ks [] (.slice none 0 0) W :=
  ⟨World.ownsRow_nil _ _ _ _, [], fun _ hg => (by cases hg), fun _ hp => (by cases hp), fun _ _ e => (by cases e), h⟩
/-- what Decode answers -/
def DecP (O : Option (List Nat × Nat)) (x : Nat → Nat) (d t u : Nat) (w : World) (rb : Nat) (s : ByteArray) (a : Nat) (ks : List (Nat × Obj)) (en : Ending) (w' : World) : Prop :=
  match O with
  | some q => ∃ v, en = .returned (.tuple #[v, .int .i64 0]) ∧ RR x d t u w rb s q.2 ks q.1 v w'
  | none => en = .returned (.tuple #[.slice none 0 0, .int .i64 4]) ∧ RE x d t u w rb s a ks w'

/-! ### the plain law -/
theorem rd_pos (c : Cd) {B : Bits} {v n : Nat} (h : rd c B = some (v, n)) : 1 ≤ n := by
  cases c with
  | una =>
    rw [rd_una] at h
    cases hz : zer 65536 B with
    | none => rw [hz] at h; cases h
    | some b => rw [hz] at h; injection h with h; injection h with h1 h2; omega
  | gam =>
    rw [rd_gam] at h
    cases hz : zer 48 B with
    | none => rw [hz] at h; cases h
    | some b =>
      rw [hz] at h
      simp only [Option.bind_some] at h
      split at h
      · cases h
      · injection h with h; injection h with h1 h2; omega
  | zet k =>
    rw [rd_zet] at h
    cases hz : zer (47 / k + 1) B with
    | none => rw [hz] at h; cases h
    | some b =>
      rw [hz] at h
      simp only [Option.bind_some] at h
      cases hm : mread (2 ^ ((b + 1) * k) - 2 ^ (b * k)) (B.drop (b + 1)) with
      | none => rw [hm] at h; cases h
      | some q =>
        rw [hm] at h
        simp only [Option.bind_some] at h
        split at h
        · injection h with h; injection h with h1 h2; omega
        · cases h
theorem tk_pos {B : Bits} {c : Cd} (hc : c.ok) {most a v e : Nat} (h : tk B c most a = some (v, e)) (ha : a ≤ B.length) : a + 1 ≤ e ∧ e ≤ B.length := by
  have h2 := (tk_bound hc h ha).2.2.2
  unfold tk at h
  cases hr : rd c (B.drop a) with
  | none => rw [hr] at h; cases h
  | some q =>
    rw [hr] at h
    simp only [Option.bind_some] at h
    split at h
    · injection h with h
      injection h with h3 h4
      have := rd_pos c (v := q.1) (n := q.2) hr
      omega
    · cases h
theorem cpy_le {B : Bits} : ∀ (c i : Nat) (ref : List Nat) (a : Nat) (t : List Nat × List Nat × Nat), cpy B c i ref a = some t → a ≤ B.length → a ≤ t.2.2 ∧ t.2.2 ≤ B.length
  | 0, i, ref, a, t, h, ha => by injection h with h; subst h; exact ⟨Nat.le_refl _, ha⟩
  | c + 1, i, ref, a, t, h, ha => by
    rw [cpy] at h
    cases ht : tk B .gam ref.length a with
    | none => rw [ht] at h; cases h
    | some q =>
      rw [ht, Option.bind_some] at h
      have hq := tk_pos (c := .gam) trivial (v := q.1) (e := q.2) ht ha
      split at h
      · cases h
      · cases hc : cpy B c (i + 1) (ref.drop (q.1 + min i 1)) q.2 with
        | none => rw [hc] at h; cases h
        | some t2 =>
          rw [hc] at h
          injection h with h
          subst h
          have := cpy_le c (i + 1) _ _ t2 hc hq.2
          exact ⟨by show a ≤ t2.2.2; omega, this.2⟩
theorem copies_pos {B : Bits} {ref : List Nat} {a : Nat} {q : List Nat × Nat} (h : copies B ref a = some q) (ha : a ≤ B.length) : a + 1 ≤ q.2 ∧ q.2 ≤ B.length := by
  unfold copies at h
  cases ht : tk B .gam (ref.length + 1) a with
  | none => rw [ht] at h; cases h
  | some q0 =>
    rw [ht, Option.bind_some] at h
    have hq := tk_pos (c := .gam) trivial (v := q0.1) (e := q0.2) ht ha
    cases hc : cpy B q0.1 0 ref q0.2 with
    | none => rw [hc] at h; cases h
    | some t2 =>
      rw [hc] at h
      injection h with h
      subst h
      have := cpy_le _ _ _ _ t2 hc hq.2
      exact ⟨by show a + 1 ≤ t2.2.2; omega, this.2⟩
end Go.Proofs.YtflnpcgnenhogaaDoor.ls

namespace Go.Proofs.YtflnpcgnenhogaaDoor.ls
open Go.RowKit Go.Proofs.YtflnpcgnenhogaaDoor.own Go.Proofs.YtflnpcgnenhogaaDoor.bit

theorem lng_le {B : Bits} {x most itv : Nat} : ∀ (c : Nat) (e : Option Nat) (used a : Nat) (t : List Nat × Nat), lng B x most itv c e used a = some t → a ≤ B.length → a ≤ t.2 ∧ t.2 ≤ B.length
  | 0, e, used, a, t, h, ha => by injection h with h; subst h; exact ⟨Nat.le_refl _, ha⟩
  | c + 1, e, used, a, t, h, ha => by
    rw [lng] at h
    cases ht : tk B .gam 262144 a with
    | none => rw [ht] at h; cases h
    | some q =>
      rw [ht, Option.bind_some] at h
      have hq := tk_pos (c := .gam) trivial (v := q.1) (e := q.2) ht ha
      cases ht2 : tk B .gam most q.2 with
      | none => rw [ht2] at h; cases h
      | some q2 =>
        rw [ht2, Option.bind_some] at h
        have hq2 := tk_pos (c := .gam) trivial (v := q2.1) (e := q2.2) ht2 hq.2
        split at h
        · cases h
        · cases hc : lng B x most itv c (some ((rowFrom x e q.1).toNat + (q2.1 + itv) - 1)) (used + (q2.1 + itv)) q2.2 with
          | none => rw [hc] at h; cases h
          | some t2 =>
            rw [hc] at h
            injection h with h
            subst h
            have := lng_le c _ _ _ t2 hc hq2.2
            exact ⟨by show a ≤ t2.2; omega, this.2⟩
theorem longs_le {B : Bits} {x most itv a : Nat} {t : List Nat × Nat} (h : longs B x most itv a = some t) (ha : a ≤ B.length) : a ≤ t.2 ∧ t.2 ≤ B.length := by
  unfold longs at h
  cases ht : tk B .gam most a with
  | none => rw [ht] at h; cases h
  | some q =>
    rw [ht, Option.bind_some] at h
    have hq := tk_pos (c := .gam) trivial (v := q.1) (e := q.2) ht ha
    have := lng_le _ _ _ _ t h hq.2
    omega
theorem rsd_le {B : Bits} {x zet : Nat} (hz : 1 ≤ zet ∧ zet ≤ 16) : ∀ (n : Nat) (e : Option Nat) (a : Nat) (t : List Nat × Nat), rsd B x zet n e a = some t → a ≤ B.length → a ≤ t.2 ∧ t.2 ≤ B.length
  | 0, e, a, t, h, ha => by injection h with h; subst h; exact ⟨Nat.le_refl _, ha⟩
  | n + 1, e, a, t, h, ha => by
    rw [rsd] at h
    cases ht : tk B (.zet zet) 262144 a with
    | none => rw [ht] at h; cases h
    | some q =>
      rw [ht, Option.bind_some] at h
      have hq := tk_pos (c := .zet zet) hz (v := q.1) (e := q.2) ht ha
      split at h
      · cases h
      · cases hc : rsd B x zet n (some (resAt x e q.1).toNat) q.2 with
        | none => rw [hc] at h; cases h
        | some t2 =>
          rw [hc] at h
          injection h with h
          subst h
          have := rsd_le hz n _ _ t2 hc hq.2
          exact ⟨by show a ≤ t2.2; omega, this.2⟩
theorem pars_le {B : Bits} {x deg : Nat} {ref : List Nat} {r : Nat} {p : Pr} (hp : p.ok) {a : Nat} {c l z : List Nat} {a' : Nat} (h : pars B x deg ref r p a = some (c, l, z, a')) (ha : a ≤ B.length) : a ≤ a' ∧ a' ≤ B.length ∧ (0 < r → a < a') := by
  rw [pars_eq] at h
  cases h0 : cop0 B ref r a with
  | none => rw [h0] at h; cases h
  | some q0 =>
    rw [h0, Option.bind_some] at h
    have k0 : a ≤ q0.2 ∧ q0.2 ≤ B.length ∧ (0 < r → a < q0.2) := by
      unfold cop0 at h0
      split at h0
      · have := copies_pos h0 ha; omega
      · injection h0 with h0; subst h0; exact ⟨Nat.le_refl _, ha, fun h => by omega⟩
    split at h
    · cases h
    · cases h1 : lng0 B x deg p.itv q0.1 q0.2 with
      | none => rw [h1] at h; cases h
      | some q1 =>
        rw [h1, Option.bind_some] at h
        have k1 : q0.2 ≤ q1.2 ∧ q1.2 ≤ B.length := by
          unfold lng0 at h1
          split at h1
          · exact longs_le h1 k0.2.1
          · injection h1 with h1; subst h1; exact ⟨Nat.le_refl _, k0.2.1⟩
        cases h2 : rsd B x p.zet (deg - q0.1.length - q1.1.length) none q1.2 with
        | none => rw [h2] at h; cases h
        | some q2 =>
          rw [h2] at h
          have k2 := rsd_le hp.2.2 _ _ _ q2 h2 k1.2
          injection h with h
          injection h with _ h
          injection h with _ h
          injection h with _ h
          omega
/-- whether what was taken is told -/
theorem dec_of {B : Bits} {x n deg : Nat} {ref : List Nat} {r : Nat} {p : Pr} {a : Nat} {l : List Nat} {a' : Nat} {bad : Bool} (h : ParP (pars B x deg ref r p a) deg l a' bad) :
    (bad = false ∧ l.length = deg ∧ Ris l ∧ (∀ v ∈ l, v < n) ∧ bitsOf (tlN x l ref r p) = (B.drop a).take (a' - a) → dec B x n deg ref r p a = some (l, a')) ∧
    (¬ (bad = false ∧ l.length = deg ∧ Ris l ∧ (∀ v ∈ l, v < n) ∧ bitsOf (tlN x l ref r p) = (B.drop a).take (a' - a)) → dec B x n deg ref r p a = none) ∧
    (bad = false → l.length = deg → ∃ c l1 z, pars B x deg ref r p a = some (c, l1, z, a')) := by
  obtain ⟨h1, h2, h3, h4⟩ := h
  cases hb : bad with
  | true =>
    rw [hb] at h3
    refine ⟨fun h => (by cases h.1), fun _ => ?_, fun h => (by cases h)⟩
    unfold dec
    rw [h3 rfl]
    rfl
  | false =>
    rw [hb] at h4
    rcases h4 rfl with ⟨c, l1, z, e1, e2⟩ | ⟨e1, e2⟩
    · have e3 : dec B x n deg ref r p a = if (srtN (c ++ l1 ++ z)).Pairwise (· < ·) ∧ (c ++ l1 ++ z).length = deg ∧ (∀ v ∈ c ++ l1 ++ z, v < n) ∧ bitsOf (tlN x (srtN (c ++ l1 ++ z)) ref r p) = (B.drop a).take (a' - a) then some (srtN (c ++ l1 ++ z), a') else none := by
        unfold dec
        rw [e1]
        rfl
      have hp := srtN_perm (c ++ l1 ++ z)
      have e4 : l.length = (c ++ l1 ++ z).length := by rw [e2]; exact hp.length_eq
      have e5 : ∀ v, v ∈ l ↔ v ∈ c ++ l1 ++ z := fun v => by rw [e2]; exact hp.mem_iff
      rw [e3, ← e2]
      refine ⟨fun h => if_pos ⟨h.2.2.1.1, by rw [← e4]; exact h.2.1, fun v hv => h.2.2.2.1 v ((e5 v).2 hv), h.2.2.2.2⟩, fun h => if_neg (fun h6 => h ⟨rfl, by rw [e4]; exact h6.2.1, ⟨h6.1, h2⟩, fun v hv => h6.2.2.1 v ((e5 v).1 hv), h6.2.2.2⟩), fun _ _ => ⟨c, l1, z, e1⟩⟩
    · have e3 : dec B x n deg ref r p a = none := by
        unfold dec
        rw [e1]
        rfl
      refine ⟨fun h => ?_, fun _ => e3, fun _ h => ?_⟩
      · have := h.2.1; omega
      · omega
theorem ris_last {l : List Nat} (h : Ris l) (h0 : 0 < l.length) (n : Nat) : (∀ v ∈ l, v < n) ↔ l[l.length - 1] < n := by
  constructor
  · intro k; exact k _ (List.getElem_mem _)
  · intro k v hv
    obtain ⟨i, hi, rfl⟩ := List.mem_iff_getElem.1 hv
    rcases Nat.lt_or_ge i (l.length - 1) with e | e
    · have := List.pairwise_iff_getElem.1 h.1 i (l.length - 1) hi (by omega) e
      omega
    · have : i = l.length - 1 := by omega
      subst this
      exact k
/-- nothing behind a head of none -/
theorem dec_zero (B : Bits) (x n : Nat) (ref : List Nat) (p : Pr) (a : Nat) : dec B x n 0 ref 0 p a = some ([], a) := by
  have h : ParP (pars B x 0 ref 0 p a) 0 [] a false := by
    refine ⟨by simp, fun v hv => (by cases hv), fun h => (by cases h), fun _ => .inl ⟨[], [], [], ?_, ?_⟩⟩
    · rw [pars_eq]
      rfl
    · exact (List.eq_nil_of_length_eq_zero (srtN_length _)).symm
  refine (dec_of (n := n) h).1 ⟨rfl, rfl, ⟨List.Pairwise.nil, fun v hv => (by cases hv)⟩, fun v hv => (by cases hv), ?_⟩
  rw [Nat.sub_self, List.take_zero]
  unfold tlN
  rw [if_pos rfl]
  rfl
end Go.Proofs.YtflnpcgnenhogaaDoor.ls

namespace Go.Proofs.YtflnpcgnenhogaaDoor.ls
open Go.RowKit Go.Proofs.YtflnpcgnenhogaaDoor.own Go.Proofs.YtflnpcgnenhogaaDoor.bit

set_option maxRecDepth 100000 in
set_option maxHeartbeats 6400000 in
theorem decode_any (x : Nat → Nat) (d t u : Nat) (hdt : d ≠ t) (hdu : d ≠ u) (htu : t ≠ u) (w : World) (hG : GL w) (hgl : GlC x d t u) (rb : Nat) (s : ByteArray) (a : Nat) (ks : List (Nat × Obj)) (W : World) (h : RE x d t u w rb s a ks W)
    (xv n deg r : Nat) (p : Pr) (hx : xv < 65536) (hn : n ≤ 65536) (hd : deg ≤ 65536) (hr : r ≤ p.win) (hp : p.ok) (ar : Option Addr) (ref : List Nat) (cap : Nat) (hcap : ref.length ≤ cap) (hris : Ris ref) (hr0 : 0 < r ∨ ref = []) (hA : LV w ar ref) (hc : Apt x d t u ar ref) :
    Calls Tryd.prog 22 #[.pointer (some ⟨rb, 0, none⟩), .int .i64 (xv : Int), .int .i64 (n : Int), .agg #[.int .i64 (deg : Int), .int .i64 (r : Int)], .slice ar ref.length cap, parV (p.win : Int) (p.itv : Int) (p.zet : Int)] W (DecP (dec (unpack (nats s)) xv n deg ref r p a) x d t u w rb s a ks) := by
  have HDU := Lib.hid hdu
  have hlen := hris.len
  have hs8 : s.size ≤ 1152921504606846975 := by obtain ⟨_, _, hr, _⟩ := h; exact hr.2.2.2
  have ha8 := h.le
  have h0 := (h.keep #[.int .i64 (deg : Int), .int .i64 (r : Int)] 55).keep #[.int .i64 (p.win : Int), .int .i64 (p.itv : Int), .int .i64 (p.zet : Int)] 38
  obtain ⟨sz, hsz⟩ : ∃ z, W.heap.size = z := ⟨_, rfl⟩
  have hsz2 : (W.alloc (.cells #[.int .i64 (deg : Int), .int .i64 (r : Int)] 55)).heap.size = sz + 1 := by simp [hsz]
  rw [hsz2, hsz] at h0
  obtain ⟨ks1, hks⟩ : ∃ k, (sz + 1, Obj.cells #[.int .i64 (p.win : Int), .int .i64 (p.itv : Int), .int .i64 (p.zet : Int)] 38 (0, 0)) :: (sz, Obj.cells #[.int .i64 (deg : Int), .int .i64 (r : Int)] 55 (0, 0)) :: ks = k := ⟨_, rfl⟩
  have M1 : Hid ((sz + 1, Obj.cells #[.int .i64 (p.win : Int), .int .i64 (p.itv : Int), .int .i64 (p.zet : Int)] 38 (0, 0)) ∈ ks1) := Lib.hid (by rw [← hks]; exact List.mem_cons_self ..)
  have M2 : Hid ((sz, Obj.cells #[.int .i64 (deg : Int), .int .i64 (r : Int)] 55 (0, 0)) ∈ ks1) := Lib.hid (by rw [← hks]; exact List.mem_cons_of_mem _ (List.mem_cons_self ..))
  have HS : Hid (∀ p ∈ ks, p ∈ ks1) := Lib.hid (fun p hp => by rw [← hks]; exact List.mem_cons_of_mem _ (List.mem_cons_of_mem _ hp))
  rw [hks] at h0
  obtain ⟨win, itv, zet⟩ := p
  have hp' := hp
  obtain ⟨hp1, hp2, hp3⟩ := hp'
  dsimp only at hp1 hp2 hp3 h0 M1 hr ⊢
  obtain ⟨B, hB⟩ : ∃ B, unpack (nats s) = B := ⟨_, rfl⟩
  have CK : Hid (∀ W, Calls Tryd.prog 16 #[.agg #[.int .i64 (win : Int), .int .i64 (itv : Int), .int .i64 (zet : Int)]] W fun e w' => e = .returned (.int .i64 0) ∧ Below W.heap.size W w') := Lib.hid (fun W => by
    have h := pcheck_any (win : Int) (itv : Int) (zet : Int) W
    rw [if_pos (show ParOk (win : Int) (itv : Int) (zet : Int) from ⟨by omega, by omega, by omega, by omega, by omega⟩)] at h
    exact h)
  have VX : Hid (∀ W, Calls Tryd.prog 41 #[.int .i64 (xv : Int)] W fun e w' => e = .returned (.bool true) ∧ W = w') := Lib.hid (fun W => by
    have h := vertex_any (xv : Int) W
    rw [decide_eq_true (show 0 ≤ (xv : Int) ∧ (xv : Int) < 65536 by omega)] at h
    exact h)
  have SR : Hid (∀ W ks a, RE x d t u w rb s a ks W → Calls Tryd.prog 42 #[.slice ar ref.length cap] W fun e w' => e = .returned (.bool true) ∧ W = w') := Lib.hid (fun W ks a h => (succ_any W ar ref cap (h.lv hA hc)).mono (by
    rintro e w' ⟨b, rfl, hb, rfl⟩
    rw [hb.2 hris]
    exact ⟨rfl, rfl⟩))
  have LS : Hid (∀ W qb ks, TK x d t u w rb qb s a false ks W → Calls Tryd.prog 43 #[.pointer (some ⟨qb, 0, none⟩), .int .i64 (xv : Int), .agg #[.int .i64 (deg : Int), .int .i64 (r : Int)], .slice ar ref.length cap, .agg #[.int .i64 (win : Int), .int .i64 (itv : Int), .int .i64 (zet : Int)]] W (ListE (ParP (pars B xv deg ref r ⟨win, itv, zet⟩ a) deg) x d t u w rb qb s ks)) := Lib.hid (fun W qb ks h => by
    rw [← hB]
    exact list_any x d t u hdt hdu htu w hG hgl rb qb s a ks W h xv deg r ⟨win, itv, zet⟩ hx hd (by omega) hp ar ref cap hcap hlen hris.2 hA hc)
  have AN : Hid (∀ W qb ks l al capl e, TR x d t u w rb qb s e false ks l (.slice al l.length capl) W → a ≤ e → l.length ≤ capl → LV W al l → Ris l → Calls Tryd.prog 44 #[.agg #[.int .i64 (win : Int), .int .i64 (itv : Int), .int .i64 (zet : Int)], .pointer (some ⟨rb, 0, none⟩), .int .i64 (a : Int), .int .i64 (xv : Int), .agg #[.int .i64 (deg : Int), .int .i64 (r : Int)], .slice al l.length capl, .slice ar ref.length cap] W fun en w' =>
      en = .returned (.bool (decide (bitsOf (tlN xv l ref r ⟨win, itv, zet⟩) = (B.drop a).take (e - a)))) ∧ TR x d t u w rb qb s e false ks l (.slice al l.length capl) w') := Lib.hid (fun W qb ks l al capl e h h1 h2 h3 h4 => by
    rw [← hB]
    exact h.anew hdu hG hgl a h1 xv deg r ⟨win, itv, zet⟩ h2 h3 ar ref cap hcap hA hc ⟨hp, hx, h4, hris, hr, hr0⟩)
  have DC := Lib.hid (fun l a' bad (h : ParP (pars B xv deg ref r ⟨win, itv, zet⟩ a) deg l a' bad) => dec_of (n := n) h)
  have PL := Lib.hid (fun c l1 z a' (h : pars B xv deg ref r ⟨win, itv, zet⟩ a = some (c, l1, z, a')) => pars_le hp h (by rw [← hB, bits_len]; exact ha8))
  have DZ : Hid (deg = 0 → r = 0 → dec B xv n deg ref r ⟨win, itv, zet⟩ a = some ([], a)) := Lib.hid (fun h1 h2 => by
    subst h1
    subst h2
    exact dec_zero B xv n ref ⟨win, itv, zet⟩ a)
  obtain ⟨D, hD⟩ : ∃ D, dec B xv n deg ref r ⟨win, itv, zet⟩ a = D := ⟨_, rfl⟩
  rw [hD] at DC DZ
  have hrl : r = 0 → ref.length = 0 := fun h => by rcases hr0 with h1 | h1; omega; rw [h1]; rfl
  have HRL := Lib.hid hrl
  unfold parV
  rw [hB, hD]
  obtain ⟨n0, hn0⟩ : ∃ n, ref.length = n := ⟨_, rfl⟩
  rw [hn0] at SR LS AN HRL hcap hlen ⊢
  have H0 := Lib.hid h0
  clear hdt hdu htu h hks hp3 hn0 hA hc hG hgl hris hr0 hrl hp h0 hD
  go_enter Tryd.func22, Tryd.ntmps22
  go_upto_block 0 with fail
  generalize World.alloc (World.alloc W _) _ = W0 at H0 ⊢
  have HC : Hid (∀ (W : World) (ks : List (Nat × Obj)) (a : Nat), RE x d t u w rb s a ks1 W → W.cell? ⟨sz, 0, none⟩ = some (.int .i64 (deg : Int)) ∧ W.cell? ⟨sz, 1, none⟩ = some (.int .i64 (r : Int)) ∧ W.cell? ⟨sz + 1, 0, none⟩ = some (.int .i64 (win : Int)) ∧ W.cell? ⟨sz + 1, 1, none⟩ = some (.int .i64 (itv : Int)) ∧ W.cell? ⟨sz + 1, 2, none⟩ = some (.int .i64 (zet : Int))) := Lib.hid (fun W _ a h => by
    have r1 := h.row M1.out
    have r2 := h.row M2.out
    refine ⟨by rw [cell_of_row _ _ _ _ _ _ r2]; rfl, by rw [cell_of_row _ _ _ _ _ _ r2]; rfl, by rw [cell_of_row _ _ _ _ _ _ r1]; rfl, by rw [cell_of_row _ _ _ _ _ _ r1]; rfl, by rw [cell_of_row _ _ _ _ _ _ r1]; rfl⟩)
  clear hsz hsz2
  go_cut [17] from 18 to 80 (fun _ wc => RE x d t u w rb s a ks1 wc ∧ ¬ (deg = 0 ∧ r = 0))
  case first =>
    obtain ⟨c0, c1, c2, c3, c4⟩ := HC.out _ ks1 _ H0.out
    clear LS AN DC PL
    go_wp2_with fail
    with_reducible refine (CK.out _).mono ?_
    rintro e w1 ⟨rfl, k1⟩
    have H1 := Lib.hid (H0.out.next k1)
    clear c0 c1 c2 c3 c4 k1 H0
    obtain ⟨c0, c1, c2, c3, c4⟩ := HC.out _ ks1 _ H1.out
    go_wp2_with fail
    with_reducible refine (VX.out _).mono ?_
    rintro e w2 ⟨rfl, rfl⟩
    have SR1 := Lib.hid (SR.out _ _ _ H1.out)
    go_wp2_with fail
    with_reducible refine SR1.out.mono ?_
    rintro e w2 ⟨rfl, rfl⟩
    clear CK VX SR SR1
    by_cases hrz : r = 0
    · obtain rfl : n0 = 0 := HRL.out hrz
      subst hrz
      by_cases hdz : deg = 0
      · subst hdz
        have HO : Hid (DecP D x d t u w rb s a ks (.returned (.tuple #[.slice none 0 0, .int .i64 0])) w1) := Lib.hid (by
          rw [DZ.out rfl rfl]
          exact ⟨_, rfl, RR.nil (H1.out.sub HS.out)⟩)
        go_wp2_with fail
        go_ret2
        exact HO.out
      · have i1 : ((deg : Int) == 0) = false := beq_eq_false_iff_ne.2 (by omega)
        go_wp2_with fail
        go_meet
        case rel => exact ⟨H1.out, fun h => hdz h.1⟩
    · have i1 : ((r : Int) == 0) = false := beq_eq_false_iff_ne.2 (by omega)
      by_cases hdz : deg = 0
      · subst hdz
        go_wp2_with fail
        go_meet
        case rel => exact ⟨H1.out, fun h => hrz h.2⟩
      · have i2 : ((deg : Int) == 0) = false := beq_eq_false_iff_ne.2 (by omega)
        go_wp2_with fail
        go_meet
        case rel => exact ⟨H1.out, fun h => hdz h.1⟩
  case rest =>
    obtain ⟨hR, hnz⟩ := hcut
    have R := Lib.hid hR
    have NZ := Lib.hid hnz
    have AT := Lib.hid hR.at_
    have t0 := TK.start hR
    clear hR hnz H0 CK VX SR DZ
    rename World => w4
    go_wp2_with fail
    with_reducible refine AT.out.mono ?_
    rintro e w5 ⟨rfl, rfl⟩
    go_upto_region 10 with fail
    obtain ⟨qb, hqb⟩ : ∃ z, w4.heap.size = z := ⟨_, rfl⟩
    rw [hqb] at t0 ⊢
    generalize World.alloc w4 _ = w5 at t0 ⊢
    have T0 := Lib.hid t0
    have LS1 := Lib.hid (LS.out _ _ _ t0)
    obtain ⟨c0, c1, c2, c3, c4⟩ := HC.out _ ks1 _ (t0.1.sub (fun p hp => List.mem_cons_of_mem _ hp))
    clear t0 hqb AT R
    clear LS
    go_wp2_with fail
    with_reducible refine LS1.out.mono ?_
    rintro e w6 ⟨v, l, a2, bad, rfl, hp, hT⟩
    clear c0 c1 c2 c3 c4 LS1 T0
    obtain ⟨dc1, dc2, dc3⟩ := DC.out _ _ _ hp
    have DC1 := Lib.hid dc1
    have DC2 := Lib.hid dc2
    have DC3 := Lib.hid dc3
    obtain ⟨al, capl, rfl, hcl, hLV⟩ := hT.lv hp.1 hp.2.1
    have HP := Lib.hid hp.2.1
    have hll := hp.1
    have T := Lib.hid hT
    have LVl := Lib.hid hLV
    have SK : Hid (Calls Tryd.prog 40 #[.pointer (some ⟨rb, 0, none⟩), .int .i64 (a : Int)] w6 fun en w' => en = .returned (.int .i64 0) ∧ TR x d t u w rb qb s a bad ks1 l (.slice al l.length capl) w') := Lib.hid (hT.seek HDU.out a ha8)
    have NO : Hid (D = none → ∀ bad l v wz, TR x d t u w rb qb s a bad ks1 l v wz → DecP D x d t u w rb s a ks (.returned (.tuple #[.slice none 0 0, .int .i64 4])) wz) := Lib.hid (fun h bad l v wz hz => by
      rw [h]
      exact ⟨rfl, hz.re.sub HS.out⟩)
    obtain ⟨q0, q1, qf⟩ := hT.cells
    obtain ⟨c0, c1, c2, c3, c4⟩ := HC.out _ ks1 _ hT.re
    have SUC := Lib.hid (succ_any w6 al l capl hLV)
    obtain ⟨ln, hln⟩ : ∃ k, l.length = k := ⟨_, rfl⟩
    have HLN := Lib.hid hln
    rw [hln] at hcl hll SUC SK ⊢
    clear dc1 dc2 dc3 DC hp hT hLV hln
    cases bad with
    | true =>
      have NO1 := Lib.hid (NO.out (DC2.out (fun h => by cases h.1)) true l (.slice al ln capl))
      clear NO SUC AN PL
      go_wp2_with fail
      with_reducible refine SK.out.mono ?_
      rintro e wz ⟨rfl, hz⟩
      have HO := Lib.hid (NO1.out wz hz)
      clear hz
      go_wp2_with fail
      go_ret2
      exact HO.out
    | false =>
      by_cases hld : ln = deg
      · subst hld
        have i1 : ((ln : Int) != (ln : Int)) = false := by simp
        go_wp2_with fail
        with_reducible refine SUC.out.mono ?_
        rintro e w7 ⟨b1, rfl, hb1, rfl⟩
        cases b1 with
        | false =>
          have NO1 := Lib.hid (NO.out (DC2.out (fun h => by have := hb1.2 h.2.2.1; cases this)) false l (.slice al ln capl))
          clear NO SUC AN PL hb1
          go_wp2_with fail
          with_reducible refine SK.out.mono ?_
          rintro e wz ⟨rfl, hz⟩
          have HO := Lib.hid (NO1.out wz hz)
          clear hz
          go_wp2_with fail
          go_ret2
          exact HO.out
        | true =>
          have hris := hb1.1 rfl
          have HRIS := Lib.hid hris
          obtain ⟨cc, ll1, zz, hpars⟩ := DC3.out (by trivial) HLN.out
          obtain ⟨pl1, pl2, pl3⟩ := PL.out _ _ _ _ hpars
          by_cases hl0 : ln = 0
          · have i2 : ((ln : Int) == 0) = true := by rw [hl0]; rfl
            have NO1 := Lib.hid (NO.out (DC2.out (fun h => by
              have e0 : l = [] := List.eq_nil_of_length_eq_zero (HLN.out.trans hl0)
              have h5 := h.2.2.2.2
              rw [e0] at h5
              have e1 : bitsOf (tlN xv [] ref r ⟨win, itv, zet⟩) = [] := by unfold tlN; rw [if_pos rfl]; rfl
              rw [e1] at h5
              have h6 := congrArg List.length h5
              rw [List.length_nil, List.length_take, List.length_drop] at h6
              have h7 : 0 < r := by
                rcases Nat.eq_zero_or_pos r with h | h
                · exact absurd ⟨hl0, h⟩ NZ.out
                · exact h
              have := pl3 h7
              omega)) false l (.slice al ln capl))
            clear NO SUC AN PL hb1 hpars hris
            go_wp2_with fail
            with_reducible refine SK.out.mono ?_
            rintro e wz ⟨rfl, hz⟩
            have HO := Lib.hid (NO1.out wz hz)
            clear hz
            go_wp2_with fail
            go_ret2
            exact HO.out
          · have i2 : ((ln : Int) == 0) = false := beq_eq_false_iff_ne.2 (by omega)
            have hk : ln - 1 < l.length := by rw [HLN.out]; omega
            obtain ⟨g, capg, hv, hcell, -⟩ := T.out.cell (ln - 1) hk
            injection hv with hv1 hvn hv2
            subst hv1 hv2
            obtain ⟨k, hkk⟩ : ∃ k, ln - 1 = k := ⟨_, rfl⟩
            have hkI : (ln : Int) - 1 = (k : Int) := by omega
            have hkl : k < ln := by omega
            obtain ⟨y, hy⟩ : ∃ y, l[ln - 1] = y := ⟨_, rfl⟩
            have hyb : y < 65536 := by rw [← hy]; exact HP.out _ (List.getElem_mem _)
            have hlast := ris_last hris (by rw [HLN.out]; omega) n
            simp only [HLN.out] at hlast
            rw [hy] at hcell hlast
            rw [hkk] at hcell
            have HLAST := Lib.hid hlast
            clear hvn hlast hkk hb1 hris hy hk
            by_cases hyn : y < n
            · have i3 : decide ((n : Int) ≤ (y : Int)) = false := decide_eq_false (by omega)
              obtain ⟨res, hres⟩ : ∃ b, decide (bitsOf (tlN xv l ref r ⟨win, itv, zet⟩) = (B.drop a).take (a2 - a)) = b := ⟨_, rfl⟩
              have AN1 := Lib.hid (AN.out _ _ _ _ _ _ _ T.out pl1 (by rw [HLN.out]; exact hcl) LVl.out HRIS.out)
              rw [hres, HLN.out] at AN1
              have HRES := Lib.hid hres
              clear hres AN PL hpars SK
              go_wp2_with fail
              with_reducible refine AN1.out.mono ?_
              rintro e w8 ⟨rfl, h8⟩
              have T8 := Lib.hid h8
              cases res with
              | true =>
                have HO : Hid (DecP D x d t u w rb s a ks (.returned (.tuple #[.slice (some ⟨g, 0, none⟩) ln capl, .int .i64 0])) w8) := Lib.hid (by
                  rw [DC1.out ⟨by trivial, HLN.out, HRIS.out, HLAST.out.2 hyn, of_decide_eq_true HRES.out⟩]
                  refine ⟨_, rfl, ?_⟩
                  obtain ⟨r1, ks', r2, r3, r4, r5⟩ := (h8.sub HS.out).rr
                  rw [HLN.out] at r1
                  exact ⟨by rw [HLN.out]; exact r1, ks', r2, r3, r4, r5⟩)
                clear h8 NO
                go_wp2_with fail
                go_ret2
                exact HO.out
              | false =>
                have NO1 := Lib.hid (NO.out (DC2.out (fun h => absurd h.2.2.2.2 (of_decide_eq_false HRES.out))) false l (.slice (some ⟨g, 0, none⟩) ln capl))
                have SK : Hid (Calls Tryd.prog 40 #[.pointer (some ⟨rb, 0, none⟩), .int .i64 (a : Int)] w8 fun en w' => en = .returned (.int .i64 0) ∧ TR x d t u w rb qb s a false ks1 l (.slice (some ⟨g, 0, none⟩) ln capl) w') := Lib.hid (by
                  exact h8.seek HDU.out a ha8)
                clear h8 NO
                go_wp2_with fail
                with_reducible refine SK.out.mono ?_
                rintro e wz ⟨rfl, hz⟩
                have HO := Lib.hid (NO1.out wz hz)
                clear hz
                go_wp2_with fail
                go_ret2
                exact HO.out
            · have i3 : decide ((n : Int) ≤ (y : Int)) = true := decide_eq_true (by omega)
              have NO1 := Lib.hid (NO.out (DC2.out (fun h => hyn (HLAST.out.1 h.2.2.2.1))) false l (.slice (some ⟨g, 0, none⟩) ln capl))
              clear NO SUC AN PL hpars
              go_wp2_with fail
              with_reducible refine SK.out.mono ?_
              rintro e wz ⟨rfl, hz⟩
              have HO := Lib.hid (NO1.out wz hz)
              clear hz
              go_wp2_with fail
              go_ret2
              exact HO.out
      · have i1 : ((ln : Int) != (deg : Int)) = true := by simp; omega
        have NO1 := Lib.hid (NO.out (DC2.out (fun h => by have := h.2.1; rw [HLN.out] at this; exact hld this)) false l (.slice al ln capl))
        clear NO SUC AN PL
        go_wp2_with fail
        with_reducible refine SK.out.mono ?_
        rintro e wz ⟨rfl, hz⟩
        have HO := Lib.hid (NO1.out wz hz)
        clear hz
        go_wp2_with fail
        go_ret2
        exact HO.out
end Go.Proofs.YtflnpcgnenhogaaDoor.ls

namespace Go.Proofs.YtflnpcgnenhogaaDoor.ls
open Go.RowKit Go.Proofs.YtflnpcgnenhogaaDoor.own Go.Proofs.YtflnpcgnenhogaaDoor.bit

theorem LV.cellAt {w : World} {a : Option Addr} {l : List Nat} (h : LV w a l) (i : Nat) (hi : i < l.length) : ∃ g o, a = some ⟨g, o, none⟩ ∧ w.cell? ⟨g, o + i, none⟩ = some (.int .u32 (l[i] : Int)) ∧ l[i] < 4294967296 := by
  obtain ⟨g, o, h1, _, h3, h4⟩ := h.2 i hi
  exact ⟨g, o, h1, h3, h4⟩
set_option maxRecDepth 100000 in
set_option maxHeartbeats 3200000 in
theorem same_any (w : World) (a : Option Addr) (l : List Nat) (cap : Nat) (b : Option Addr) (m : List Nat) (capb : Nat) (hc : l.length ≤ cap) (hcb : m.length ≤ capb) (hA : LV w a l) (hB : LV w b m) :
    Calls Tryd.prog 23 #[.slice a l.length cap, .slice b m.length capb] w fun e w' => e = .returned (.bool (decide (l = m))) ∧ Below w.heap.size w w' := by
  have HA := Lib.hid hA
  have HB := Lib.hid hB
  have hl9 := hA.1
  have hm9 := hB.1
  obtain ⟨r, hr⟩ : ∃ r, decide (l = m) = r := ⟨_, rfl⟩
  have HR := Lib.hid hr
  obtain ⟨n, hn⟩ : ∃ n, l.length = n := ⟨_, rfl⟩
  obtain ⟨n2, hn2⟩ : ∃ n, m.length = n := ⟨_, rfl⟩
  have HN := Lib.hid hn
  have HN2 := Lib.hid hn2
  rw [hr]
  rw [hn] at hc hl9 ⊢
  rw [hn2] at hcb hm9 ⊢
  clear hA hB hr hn hn2
  go_enter Tryd.func23, Tryd.ntmps23
  by_cases he : n = n2
  · subst he
    have i1 : ((n : Int) != (n : Int)) = false := by simp
    go_wp2_with fail
    go_loopw [5] (fun v5 wr => ∃ i q : Nat, v5 = .int .i64 (i : Int) ∧ i ≤ n ∧ l.take i = m.take i ∧ wr = w.drewN q) (fun v5 _ => n - (intOf v5).toNat)
    case atStart => exact ⟨0, 0, rfl, Nat.zero_le _, rfl, rfl⟩
    case round =>
      obtain ⟨i, q, rfl, hi, hag, rfl⟩ := hrel
      have AG := Lib.hid hag
      clear hag
      by_cases hlt : i < n
      · have i2 : decide ((i : Int) < (n : Int)) = true := decide_eq_true (by omega)
        obtain ⟨g, o, ha, c1, b1⟩ := HA.out.cellAt i (by rw [HN.out]; exact hlt)
        obtain ⟨g2, o2, ha2, c2, b2⟩ := HB.out.cellAt i (by rw [HN2.out]; exact hlt)
        subst ha ha2
        obtain ⟨y, hy⟩ : ∃ y, l[i]'(by rw [HN.out]; exact hlt) = y := ⟨_, rfl⟩
        obtain ⟨y2, hy2⟩ : ∃ y, m[i]'(by rw [HN2.out]; exact hlt) = y := ⟨_, rfl⟩
        rw [hy] at c1 b1
        rw [hy2] at c2 b2
        have NX : Hid (y = y2 → l.take (i + 1) = m.take (i + 1)) := Lib.hid (fun h => by
          rw [List.take_succ_eq_append_getElem (by rw [HN.out]; exact hlt), List.take_succ_eq_append_getElem (by rw [HN2.out]; exact hlt), AG.out, hy, hy2, h])
        have NO : Hid (y ≠ y2 → l ≠ m) := Lib.hid (fun h e => by
          subst e
          exact h (hy.symm.trans hy2))
        clear hy hy2
        by_cases hyy : y = y2
        · have i3 : ((y : Int) != (y2 : Int)) = false := by simp [hyy]
          have NX2 := Lib.hid (NX.out hyy)
          clear NX NO hyy
          go_upto_region 6 with fail
          go_quiet (fail)
          go_wp2_with fail
          go_roundw
          case rel => exact ⟨i + 1, _, by go_num, by omega, NX2.out, (by first | rfl | exact drewN_add _ _ _)⟩
          case measure => simp [intOf]; omega
        · have i3 : ((y : Int) != (y2 : Int)) = true := by simp; omega
          obtain rfl : r = false := by rw [← HR.out]; exact decide_eq_false (NO.out hyy)
          clear NX NO hyy
          go_upto_region 6 with fail
          go_quiet (fail)
          go_wp2_with fail
          go_ret
          exact ⟨rfl, (by repeat (first | exact Below.refl _ _ | refine Below.drew ?_ | refine below_drewN ?_ _ | refine Below.setCell ?_ (by simp; try omega) _ | refine Below.alloc ?_ (by simp; try omega) _))⟩
      · have hin : i = n := by omega
        subst hin
        have i2 : decide ((i : Int) < (i : Int)) = false := decide_eq_false (by omega)
        obtain rfl : r = true := by
          rw [← HR.out]
          refine decide_eq_true ?_
          have := AG.out
          rwa [List.take_of_length_le (by rw [HN.out]; exact Nat.le_refl _), List.take_of_length_le (by rw [HN2.out]; exact Nat.le_refl _)] at this
        go_wp2_with fail
        go_ret
        exact ⟨rfl, (by repeat (first | exact Below.refl _ _ | refine Below.drew ?_ | refine below_drewN ?_ _ | refine Below.setCell ?_ (by simp; try omega) _ | refine Below.alloc ?_ (by simp; try omega) _))⟩
  · have i1 : ((n : Int) != (n2 : Int)) = true := by simp; omega
    obtain rfl : r = false := by rw [← HR.out]; exact decide_eq_false (fun h => he (by rw [← HN.out, ← HN2.out, h]))
    clear he
    go_wp2_with fail
    go_ret
    exact ⟨rfl, (by repeat (first | exact Below.refl _ _ | refine Below.drew ?_ | refine below_drewN ?_ _ | refine Below.setCell ?_ (by simp; try omega) _ | refine Below.alloc ?_ (by simp; try omega) _))⟩
theorem same_nil (w : World) (a : Option Addr) (cap : Nat) (b : Option Addr) (capb : Nat) :
    Calls Tryd.prog 23 #[.slice a 0 cap, .slice b 0 capb] w fun e w' => e = .returned (.bool true) ∧ w = w' := by
  go_enter Tryd.func23, Tryd.ntmps23
  go_wp2_with fail
  go_loopw [5] (fun v5 wr => v5 = .int .i64 0 ∧ wr = w) (fun _ _ => 0)
  case atStart => exact ⟨rfl, rfl⟩
  case round =>
    obtain ⟨rfl, rfl⟩ := hrel
    go_wp2_with fail
    go_ret
    exact ⟨rfl, rfl⟩
set_option maxRecDepth 100000 in
theorem pown_any (win itv zet : Int) (w : World) : Calls Tryd.prog 10 #[.agg #[.int .i64 win, .int .i64 itv, .int .i64 zet]] w fun e w' => e = .returned (.agg #[.int .i64 win, .int .i64 itv, .int .i64 zet]) ∧ Below w.heap.size w w' := by
  go_enter Tryd.func10, Tryd.ntmps10
  go_wp2_with fail
  generalize hW : World.alloc (World.alloc w _) _ = W0
  obtain ⟨r1, r2, kb⟩ := rows2 hW
  have q0 : W0.cell? ⟨w.heap.size + 1, 0, none⟩ = some (.int .i64 win) := by rw [cell_of_row _ _ _ _ _ _ r2]; rfl
  have q1 : W0.cell? ⟨w.heap.size + 1, 1, none⟩ = some (.int .i64 itv) := by rw [cell_of_row _ _ _ _ _ _ r2]; rfl
  have q2 : W0.cell? ⟨w.heap.size + 1, 2, none⟩ = some (.int .i64 zet) := by rw [cell_of_row _ _ _ _ _ _ r2]; rfl
  exact bodyPost_ret (v := .agg #[.int .i64 win, .int .i64 itv, .int .i64 zet]) (by simp [results, Tryd.results10, go_sem, q0, q1, q2]) rfl ⟨rfl, kb⟩
end Go.Proofs.YtflnpcgnenhogaaDoor.ls

namespace Go.Proofs.YtflnpcgnenhogaaDoor.ls
open Go.RowKit Go.Proofs.YtflnpcgnenhogaaDoor.own Go.Proofs.YtflnpcgnenhogaaDoor.bit

/-- a vertex, its successors, those of its reference, how far back that is, the Params -/
structure One where
  X : Int
  sa : Option Addr
  succ : List Nat
  sc : Nat
  ra : Option Addr
  ref : List Nat
  rc : Nat
  R : Int
  win : Int
  itv : Int
  zet : Int
def One.cells (o : One) : List Value := [.int .i64 o.X, .slice o.sa o.succ.length o.sc, .slice o.ra o.ref.length o.rc, .int .i64 o.R, .int .i64 o.win, .int .i64 o.itv, .int .i64 o.zet]
def One.In (o : One) (w : World) : Prop := LV w o.sa o.succ ∧ o.succ.length ≤ o.sc ∧ LV w o.ra o.ref ∧ o.ref.length ≤ o.rc
def One.may (o : One) : Prop := MayI o.win o.itv o.zet o.X o.succ o.ref o.R
def One.pr (o : One) : Pr := ⟨o.win.toNat, o.itv.toNat, o.zet.toNat⟩
def One.lay (o : One) : Bits := ls.lay o.X.toNat o.succ o.ref o.R.toNat o.pr
theorem One.cells_length (o : One) : o.cells.length = 7 := rfl
theorem One.nat {o : One} (h : o.may) : o.X = (o.X.toNat : Int) ∧ o.R = (o.R.toNat : Int) ∧ o.win = (o.pr.win : Int) ∧ o.itv = (o.pr.itv : Int) ∧ o.zet = (o.pr.zet : Int) ∧ MayN o.X.toNat o.succ o.ref o.R.toNat o.pr := by
  have h' := h
  obtain ⟨⟨h1, h2, h3, h4, h5⟩, ⟨h6, h7⟩, h8, h9, h10, h11, h12⟩ := h'
  have e1 : o.X = (o.X.toNat : Int) := by omega
  have e2 : o.R = (o.R.toNat : Int) := by omega
  have e3 : o.win = (o.pr.win : Int) := by show _ = ((o.win.toNat : Nat) : Int); omega
  have e4 : o.itv = (o.pr.itv : Int) := by show _ = ((o.itv.toNat : Nat) : Int); omega
  have e5 : o.zet = (o.pr.zet : Int) := by show _ = ((o.zet.toNat : Nat) : Int); omega
  refine ⟨e1, e2, e3, e4, e5, mayN_mayI.1 ?_⟩
  rw [← e1, ← e2, ← e3, ← e4, ← e5]
  exact h
theorem One.In.below {o : One} {w w' : World} (h : o.In w) (k : Below w.heap.size w w') : o.In w' := ⟨h.1.below k, h.2.1, h.2.2.1.below k, h.2.2.2⟩
/-- Ones in memory that are only read -/
def OL (w : World) (a : Option Addr) (L : List One) : Prop := ∀ i (h : i < L.length), ∃ g o, a = some ⟨g, o, none⟩ ∧ g < w.heap.size ∧ (∀ k, k < 7 → w.cell? ⟨g, o + 7 * i + k, none⟩ = (L[i].cells)[k]?) ∧ L[i].In w
theorem OL.below {w w' : World} {a : Option Addr} {L : List One} (h : OL w a L) (k : Below w.heap.size w w') : OL w' a L := fun i hi => by
  obtain ⟨g, o, h1, h2, h3, h4⟩ := h i hi
  exact ⟨g, o, h1, Nat.lt_of_lt_of_le h2 k.size, fun j hj => (World.cell?_of_block (k.block g h2)).trans (h3 j hj), h4.below k⟩

def onesV (M : List One) : List Value := M.flatMap One.cells
def laysOf (M : List One) : Bits := M.flatMap One.lay
def endsOf : Nat → List One → List Nat
  | _, [] => []
  | b, o :: r => (b + o.lay.length) :: endsOf (b + o.lay.length) r
theorem onesV_snoc (M : List One) (o : One) : onesV (M ++ [o]) = onesV M ++ o.cells := by unfold onesV; rw [List.flatMap_append]; simp
theorem laysOf_snoc (M : List One) (o : One) : laysOf (M ++ [o]) = laysOf M ++ o.lay := by unfold laysOf; rw [List.flatMap_append]; simp
theorem onesV_length (M : List One) : (onesV M).length = 7 * M.length := by
  induction M with
  | nil => rfl
  | cons o M ih => show (o.cells ++ onesV M).length = _; rw [List.length_append, ih, One.cells_length, List.length_cons]; omega
theorem onesV_get (M : List One) : ∀ (j k : Nat) (hj : j < M.length), k < 7 → (onesV M)[7 * j + k]? = (M[j].cells)[k]? := by
  induction M with
  | nil => intro j k hj; cases hj
  | cons o M ih =>
    intro j k hj hk
    show (o.cells ++ onesV M)[7 * j + k]? = _
    cases j with
    | zero => rw [List.getElem?_append_left (by rw [One.cells_length]; omega), Nat.mul_zero, Nat.zero_add]; rfl
    | succ j =>
      rw [List.getElem?_append_right (by rw [One.cells_length]; omega), One.cells_length, show 7 * (j + 1) + k - 7 = 7 * j + k by omega, ih j k (by simpa using hj) hk]
      rfl
theorem endsOf_snoc (M : List One) (o : One) : ∀ b, endsOf b (M ++ [o]) = endsOf b M ++ [b + (laysOf (M ++ [o])).length] := by
  induction M with
  | nil => intro b; simp [endsOf, laysOf]
  | cons p M ih =>
    intro b
    show (b + p.lay.length) :: endsOf (b + p.lay.length) (M ++ [o]) = (b + p.lay.length) :: (endsOf (b + p.lay.length) M ++ [b + (p.lay ++ laysOf (M ++ [o])).length])
    rw [ih, List.length_append, Nat.add_assoc]
theorem endsOf_length (M : List One) : ∀ b, (endsOf b M).length = M.length := by
  induction M with
  | nil => intro b; rfl
  | cons p M ih => intro b; show (endsOf _ M).length + 1 = _; rw [ih]; rfl
theorem endsOf_get (M : List One) : ∀ (b j : Nat), j < M.length → (endsOf b M)[j]? = some (b + (laysOf (M.take (j + 1))).length) := by
  induction M with
  | nil => intro b j hj; cases hj
  | cons p M ih =>
    intro b j hj
    cases j with
    | zero => simp [endsOf, laysOf]
    | succ j =>
      show (endsOf (b + p.lay.length) M)[j]? = some (b + (p.lay ++ laysOf (M.take (j + 1))).length)
      rw [ih _ j (by simpa using hj), List.length_append, Nat.add_assoc]
/-- what stands at the j-th place of all bits -/
theorem laysOf_at (M : List One) (R : Bits) (j : Nat) (hj : j < M.length) : (laysOf M ++ R).drop (laysOf (M.take j)).length = M[j].lay ++ (laysOf (M.drop (j + 1)) ++ R) := by
  have e : laysOf M = laysOf (M.take j) ++ (M[j].lay ++ laysOf (M.drop (j + 1))) := by
    conv => lhs; rw [← List.take_append_drop j M, List.drop_eq_getElem_cons hj]
    unfold laysOf
    rw [List.flatMap_append, List.flatMap_cons]
  rw [e, List.append_assoc, List.drop_left, List.append_assoc]
theorem laysOf_take (M : List One) (j : Nat) (hj : j < M.length) : (laysOf (M.take (j + 1))).length = (laysOf (M.take j)).length + M[j].lay.length := by
  rw [List.take_succ_eq_append_getElem hj, laysOf_snoc, List.length_append]

/-- a lay is read as its list, behind its head -/
theorem dec_lay {B R : Bits} {a x : Nat} {succ ref : List Nat} {r : Nat} {p : Pr} (hm : MayN x succ ref r p) (h : B.drop a = lay x succ ref r p ++ R) (ref' : List Nat) (h0 : (if succ = [] then 0 else r) = 0 → ref' = []) (h1 : (if succ = [] then 0 else r) ≠ 0 → ref' = ref) :
    dec B x 65536 succ.length ref' (if succ = [] then 0 else r) p (a + (bitsOf (hdN succ r p)).length) = some (succ, a + (lay x succ ref r p).length) := by
  have hk := (hread_lay hm h).2
  rw [hd_len, ← Nat.add_assoc]
  by_cases hs : succ = []
  · rw [if_pos hs] at h0 ⊢
    have e : bitsOf (tlN x succ ref r p) = [] := by unfold tlN; rw [if_pos hs]; rfl
    rw [e, hs, List.length_nil, List.length_nil, Nat.add_zero, dec_zero]
  · rw [if_neg hs] at h0 h1 ⊢
    have e : ref' = ref := by
      rcases Nat.eq_zero_or_pos r with hr | hr
      · rw [h0 hr]
        exact (hm.2.2.2.2.2.resolve_left (by omega)).symm
      · exact h1 (by omega)
    subst e
    exact dec_back B R x 65536 succ ref' r p _ hm hs (fun v hv => hm.2.2.1.2 v hv) hk
/-! ### the state -/
theorem FS.grown {w W W2 : World} {wr : Option (Nat × Bits)} {rd : Option (Nat × ByteArray × Nat)} {ks ks' : List (Nat × Obj)} {row : Option Nat} (h : FS w wr rd ks W) (hg : W.grownBy W2 row) (hrow : ∀ g, row = some g → ∃ o, (g, o) ∈ ks)
    (hk' : ∀ p ∈ ks', (p ∈ ks ∧ some p.1 ≠ row) ∨ ((some p.1 = row ∨ W.heap.size ≤ p.1) ∧ W2.heap[p.1]? = some p.2)) : FS w wr rd ks' W2 := by
  obtain ⟨x, hf, hw, hr, hk⟩ := h
  have hcol : ∀ g, row = some g → x g = 4 ∧ g < W.heap.size := fun g e => by
    obtain ⟨o, ho⟩ := hrow g e
    have := hk _ ho
    exact ⟨this.1, lt_of_block this.2⟩
  have f2 : Fr x (paint x W.heap.size 4) (fun e => e = 4) W W2 := Fr.of_steps hg.os hg.tape hg.output hg.size rfl (fun b hb hu => hg.block b hb (fun e => hu (hcol b e.symm).1))
  refine ⟨_, hf.trans (f2.mono (fun c hc => by show c < 50; omega)), fun q e => (hw q e).frame f2 (by decide), fun q e => rdc_frame (hr q e) f2 (by decide), fun p hp => ?_⟩
  rcases hk' p hp with ⟨h1, h2⟩ | ⟨h1, h2⟩
  · obtain ⟨h3, h4⟩ := hk p h1
    exact ⟨(paint_old (lt_of_block h4)).trans h3, (hg.block _ (lt_of_block h4) h2).trans h4⟩
  · refine ⟨?_, h2⟩
    rcases h1 with h1 | h1
    · have := hcol _ h1.symm
      exact (paint_old this.2).trans this.1
    · exact paint_new h1
theorem FS.sub {w W : World} {wr : Option (Nat × Bits)} {rd : Option (Nat × ByteArray × Nat)} {ks ks' : List (Nat × Obj)} (h : FS w wr rd ks W) (hs : ∀ p ∈ ks', p ∈ ks) : FS w wr rd ks' W := by
  obtain ⟨x, hf, hw, hr, hk⟩ := h
  exact ⟨x, hf, hw, hr, fun p hp => hk p (hs p hp)⟩
theorem FS.enc_yes {w W : World} {wb : Nat} {l : Bits} {rd : Option (Nat × ByteArray × Nat)} {ks : List (Nat × Obj)} (h : FS w (some (wb, l)) rd ks W) (hG : GL w) (o : One) (hin : o.In w) (hm : o.may) (hl : l.length + o.lay.length ≤ 134217728) :
    Calls Tryd.prog 11 #[.pointer (some ⟨wb, 0, none⟩), .int .i64 o.X, .slice o.sa o.succ.length o.sc, .slice o.ra o.ref.length o.rc, .int .i64 o.R, parV o.win o.itv o.zet] W fun e w' => e = .returned (.int .i64 0) ∧ FS w (some (wb, l ++ o.lay)) rd ks w' := by
  have kb := h.below
  obtain ⟨y, hf, hw, hr, hk⟩ := h
  obtain ⟨e1, e2, e3, e4, e5, hN⟩ := One.nat hm
  rw [e1, e2, e3, e4, e5]
  refine (lenc_yes y 0 1 2 (by decide) (by decide) (by decide) o.pr o.X.toNat W (hG.below kb) wb l o.sa o.succ o.sc o.ra o.ref o.rc o.R.toNat hin.2.1 hin.2.2.2 hN (hin.1.below kb) (hin.2.2.1.below kb) hl (hw _ rfl)).mono ?_
  rintro e w' ⟨rfl, x', f2, hw2⟩
  exact ⟨rfl, x', hf.trans (f2.mono (fun c hc => by show c < 50; omega)), fun q e => by cases e; exact hw2, fun q e => rdc_frame (hr q e) f2 (by decide), rows_frame hk f2 (by decide)⟩
theorem FS.enc_no {w W : World} {wb : Nat} {l : Bits} {rd : Option (Nat × ByteArray × Nat)} {ks : List (Nat × Obj)} (h : FS w (some (wb, l)) rd ks W) (hG : GL w) (o : One) (hin : o.In w) (hm : ¬ (o.may ∧ l.length + o.lay.length ≤ 134217728)) :
    Calls Tryd.prog 11 #[.pointer (some ⟨wb, 0, none⟩), .int .i64 o.X, .slice o.sa o.succ.length o.sc, .slice o.ra o.ref.length o.rc, .int .i64 o.R, parV o.win o.itv o.zet] W fun e w' => ∃ ec : Int, e = .returned (.int .i64 ec) ∧ ec ≠ 0 ∧ FS w (some (wb, l)) rd ks w' := by
  have kb := h.below
  by_cases hmay : o.may
  · have hl : 134217728 < l.length + o.lay.length := by
      rcases Nat.lt_or_ge 134217728 (l.length + o.lay.length) with h | h
      · exact h
      · exact absurd ⟨hmay, h⟩ hm
    obtain ⟨e1, e2, e3, e4, e5, hN⟩ := One.nat hmay
    obtain ⟨y, hf, hw, hr, hk⟩ := id h
    rw [e1, e2, e3, e4, e5]
    refine (lenc_full y 0 6 (by decide) o.pr o.X.toNat W (hG.below kb) wb l o.sa o.succ o.sc o.ra o.ref o.rc o.R.toNat hin.2.1 hin.2.2.2 hN (hin.1.below kb) (hin.2.2.1.below kb) hl (hw _ rfl)).mono ?_
    rintro e w' ⟨rfl, k⟩
    exact ⟨3, rfl, by decide, h.next k⟩
  · refine (lenc_no wb o.win o.itv o.zet o.X W o.sa o.succ o.sc o.ra o.ref o.rc o.R hmay (hin.1.below kb) (hin.2.2.1.below kb)).mono ?_
    rintro e w' ⟨rfl, k⟩
    exact ⟨1, rfl, by decide, h.next k⟩
/-- Decode, where what stands there is a list -/
theorem FS.decode {w W : World} {rb a : Nat} {s : ByteArray} {wr : Option (Nat × Bits)} {ks : List (Nat × Obj)} (h : FS w wr (some (rb, s, a)) ks W) (hG : GL w) (xv n deg r : Nat) (p : Pr) (hx : xv < 65536) (hn : n ≤ 65536) (hd : deg ≤ 65536) (hr : r ≤ p.win) (hp : p.ok)
    (ar : Option Addr) (ref : List Nat) (cap : Nat) (hcap : ref.length ≤ cap) (hris : Ris ref) (hr0 : 0 < r ∨ ref = []) (hA : LV w ar ref) (q : List Nat × Nat) (hq : dec (unpack (nats s)) xv n deg ref r p a = some q) :
    Calls Tryd.prog 22 #[.pointer (some ⟨rb, 0, none⟩), .int .i64 (xv : Int), .int .i64 (n : Int), .agg #[.int .i64 (deg : Int), .int .i64 (r : Int)], .slice ar ref.length cap, parV (p.win : Int) (p.itv : Int) (p.zet : Int)] W fun e w' =>
      ∃ v, e = .returned (.tuple #[v, .int .i64 0]) ∧ w'.ownsRow 0 60 1 v q.1.length (u32V q.1) ∧ FS w wr (some (rb, s, q.2)) ks w' := by
  have kb := h.below
  obtain ⟨x, hf, hw, hrd, hk⟩ := h
  have e0 : x 0 = 100 := hf.col 0 (World.block_lt_of_cell? _ _ hG.g0)
  have e1 : x 1 = 100 := hf.col 1 (World.block_lt_of_cell? _ _ hG.u0)
  have hre : RE x 5 1 3 W rb s a [] W := RE.start (hrd _ rfl) (Below.refl _ _) [] (fun p hp => by cases hp)
  refine (decode_any x 5 1 3 (by decide) (by decide) (by decide) W (hG.below kb) (by unfold GlC; rw [e0, e1]; decide) rb s a [] W hre xv n deg r p hx hn hd hr hp ar ref cap hcap hris hr0 (hA.below kb) (fun g o e h0 => ?_)).mono ?_
  · obtain ⟨g', o', e', hlt, _⟩ := hA.2 0 h0
    rw [e] at e'
    injection e' with e'
    injection e' with e2 e3
    subst e2
    rw [hf.col g hlt]
    decide
  · intro e w' hD
    rw [hq] at hD
    obtain ⟨v, rfl, h1, ks', _, _, _, x', f2, hr2, _⟩ := hD
    exact ⟨v, rfl, h1, x', hf.trans (f2.mono (fun c hc => by show c < 50; omega)), fun q e => (hw q e).frame f2 (by decide), fun q e => by cases e; exact hr2, rows_frame hk f2 (by decide)⟩
end Go.Proofs.YtflnpcgnenhogaaDoor.ls

namespace Go.Proofs.YtflnpcgnenhogaaDoor.ls
open Go.RowKit Go.Proofs.YtflnpcgnenhogaaDoor.own Go.Proofs.YtflnpcgnenhogaaDoor.bit

theorem Tryd.infoOne : (Tryd.prog.info? 33).map (fun i => (i.zero.map fun z => z.cells.size, i.size, i.bytes)) = some (some 7, 7, 88) := by kernel_rfl
theorem one_info : ∃ i z, Tryd.prog.info? 33 = some i ∧ i.zero = some z ∧ i.size = 7 ∧ i.bytes = 88 ∧ z.cells.size = 7 := by
  have h := Tryd.infoOne
  cases hi : Tryd.prog.info? 33 with
  | none => rw [hi] at h; cases h
  | some i =>
    rw [hi] at h
    injection h with h
    injection h with h1 h2
    injection h2 with h2 h3
    cases hz : i.zero with
    | none => rw [hz] at h1; cases h1
    | some z =>
      rw [hz] at h1
      injection h1 with h1
      exact ⟨i, z, rfl, hz, h2, h3, h1⟩
theorem own_same2 {W W' : World} {base : Nat} {T : TypeId} {sz : Nat} {v : Value} {n : Nat} {xs : List Value} (h : W.ownsRow base T sz v n xs) (hs : ∀ g, v.ownBlock = some g → W'.heap[g]? = W.heap[g]?) : W'.ownsRow base T sz v n xs := by
  refine ⟨h.1, ?_⟩
  rcases h.2 with h2 | ⟨g, cap, cur, hv, hb, hg, r⟩
  · exact .inl h2
  · exact .inr ⟨g, cap, cur, hv, hb, (hs g (by rw [hv]; rfl)).trans hg, r⟩
theorem own_block2 {W : World} {base : Nat} {T : TypeId} {sz : Nat} {v : Value} {n : Nat} {xs : List Value} (h : W.ownsRow base T sz v n xs) {g : Nat} (hv : v.ownBlock = some g) : ∃ o, W.heap[g]? = some o := by
  rcases h.2 with ⟨rfl, _⟩ | ⟨g', cap, cur, rfl, _, hg, _⟩
  · cases hv
  · cases hv
    exact ⟨_, hg⟩
/-- two rows that the law owns, beside the writer and the reader -/
def LF (w : World) (wr : Option (Nat × Bits)) (rd : Option (Nat × ByteArray × Nat)) (ks : List (Nat × Obj)) (vm : Value) (M : List One) (ve : Value) (E : List Nat) (W : World) : Prop :=
  W.ownsRow 0 33 7 vm M.length (onesV M) ∧ W.ownsRow 0 3 1 ve E.length (intV E) ∧ (∀ g, vm.ownBlock = some g → ve.ownBlock ≠ some g) ∧
  ∃ km ke, (∀ g, vm.ownBlock = some g → ∃ o, (g, o) ∈ km) ∧ (∀ p ∈ km, some p.1 = vm.ownBlock) ∧ (∀ g, ve.ownBlock = some g → ∃ o, (g, o) ∈ ke) ∧ (∀ p ∈ ke, some p.1 = ve.ownBlock) ∧
    (∀ p ∈ ks, some p.1 ≠ vm.ownBlock ∧ some p.1 ≠ ve.ownBlock) ∧ FS w wr rd (km ++ (ke ++ ks)) W
section
variable {w W : World} {wr : Option (Nat × Bits)} {rd : Option (Nat × ByteArray × Nat)} {ks : List (Nat × Obj)} {vm ve : Value} {M : List One} {E : List Nat}
theorem LF.start (h : FS w wr rd ks W) : LF w wr rd ks (.slice none 0 0) [] (.slice none 0 0) [] W :=
  ⟨World.ownsRow_nil _ _ _ _, World.ownsRow_nil _ _ _ _, fun _ hg => (by cases hg), [], [], fun _ hg => (by cases hg), fun _ hp => (by cases hp), fun _ hg => (by cases hg), fun _ hp => (by cases hp), fun _ _ => ⟨fun e => (by cases e), fun e => (by cases e)⟩, h⟩
theorem LF.fs (h : LF w wr rd ks vm M ve E W) : FS w wr rd ks W := by
  obtain ⟨_, _, _, km, ke, _, _, _, _, _, h6⟩ := h
  exact h6.sub (fun p hp => List.mem_append_right _ (List.mem_append_right _ hp))
theorem LF.below (h : LF w wr rd ks vm M ve E W) : Below w.heap.size w W := h.fs.below
theorem LF.row (h : LF w wr rd ks vm M ve E W) {b : Nat} {o : Obj} (hm : (b, o) ∈ ks) : W.heap[b]? = some o := h.fs.row hm
theorem LF.next (h : LF w wr rd ks vm M ve E W) {W' : World} (k : Below W.heap.size W W') : LF w wr rd ks vm M ve E W' := by
  obtain ⟨h1, h2, h3, km, ke, h4, h5, h6, h7, h8, h9⟩ := h
  exact ⟨own_below h1 k, own_below h2 k, h3, km, ke, h4, h5, h6, h7, h8, h9.next k⟩
theorem LF.drew (h : LF w wr rd ks vm M ve E W) : LF w wr rd ks vm M ve E W.drew := h.next (Below.drew (Below.refl _ _))
theorem LF.drewN (h : LF w wr rd ks vm M ve E W) (n : Nat) : LF w wr rd ks vm M ve E (W.drewN n) := h.next ⟨rfl, rfl, rfl, Nat.le_refl _, fun _ _ => rfl⟩
theorem LF.sub (h : LF w wr rd ks vm M ve E W) {ks0 : List (Nat × Obj)} (hs : ∀ p ∈ ks0, p ∈ ks) : LF w wr rd ks0 vm M ve E W := by
  obtain ⟨h1, h2, h3, km, ke, h4, h5, h6, h7, h8, h9⟩ := h
  refine ⟨h1, h2, h3, km, ke, h4, h5, h6, h7, fun p hp => h8 p (hs p hp), h9.sub (fun p hp => ?_)⟩
  rcases List.mem_append.1 hp with hp | hp
  · exact List.mem_append_left _ hp
  · rcases List.mem_append.1 hp with hp | hp
    · exact List.mem_append_right _ (List.mem_append_left _ hp)
    · exact List.mem_append_right _ (List.mem_append_right _ (hs p hp))
theorem LF.add (h : LF w wr rd ks vm M ve E W) (row : Array Value) (T : TypeId) : LF w wr rd ((W.heap.size, .cells row T (0, 0)) :: ks) vm M ve E (W.alloc (.cells row T)) := by
  obtain ⟨h1, h2, h3, km, ke, h4, h5, h6, h7, h8, h9⟩ := h
  have k : Below W.heap.size W (W.alloc (.cells row T)) := (Below.refl _ _).alloc (Nat.le_refl _) _
  refine ⟨own_below h1 k, own_below h2 k, h3, km, ke, h4, h5, h6, h7, fun p hp => ?_, (h9.add row T).sub (fun p hp => ?_)⟩
  · rcases List.mem_cons.1 hp with rfl | hp
    · exact ⟨fun e => by have := (h1.lt _ e.symm).2; exact absurd this (Nat.lt_irrefl _), fun e => by have := (h2.lt _ e.symm).2; exact absurd this (Nat.lt_irrefl _)⟩
    · exact h8 p hp
  · rcases List.mem_append.1 hp with hp | hp
    · exact List.mem_cons_of_mem _ (List.mem_append_left _ hp)
    · rcases List.mem_append.1 hp with hp | hp
      · exact List.mem_cons_of_mem _ (List.mem_append_right _ (List.mem_append_left _ hp))
      · rcases List.mem_cons.1 hp with rfl | hp
        · exact List.mem_cons_self ..
        · exact List.mem_cons_of_mem _ (List.mem_append_right _ (List.mem_append_right _ hp))
/-- a call that keeps the state of writer, reader and rows keeps the law's own rows -/
theorem LF.keep {W' : World} (h : LF w wr rd ks vm M ve E W) {wr' : Option (Nat × Bits)} {rd' : Option (Nat × ByteArray × Nat)} (hk : ∀ ks1, FS w wr rd ks1 W → FS w wr' rd' ks1 W') : LF w wr' rd' ks vm M ve E W' := by
  obtain ⟨h1, h2, h3, km, ke, h4, h5, h6, h7, h8, h9⟩ := h
  have h10 := hk _ h9
  refine ⟨own_same2 h1 (fun g hg => ?_), own_same2 h2 (fun g hg => ?_), h3, km, ke, h4, h5, h6, h7, h8, h10⟩
  · obtain ⟨o, ho⟩ := h4 g hg
    rw [h9.row (b := g) (o := o) (List.mem_append_left _ ho), h10.row (b := g) (o := o) (List.mem_append_left _ ho)]
  · obtain ⟨o, ho⟩ := h6 g hg
    rw [h9.row (b := g) (o := o) (List.mem_append_right _ (List.mem_append_left _ ho)), h10.row (b := g) (o := o) (List.mem_append_right _ (List.mem_append_left _ ho))]
theorem LF.call (h : LF w wr rd ks vm M ve E W) {f : Nat} {args : Array Value} {P : Ending → World → Prop} {wr' : Option (Nat × Bits)} {rd' : Option (Nat × ByteArray × Nat)}
    (hc : ∀ ks1, FS w wr rd ks1 W → Calls Tryd.prog f args W fun e w' => P e w' ∧ FS w wr' rd' ks1 w') : Calls Tryd.prog f args W fun e w' => P e w' ∧ LF w wr' rd' ks vm M ve E w' := by
  obtain ⟨h1, h2, h3, km, ke, h4, h5, h6, h7, h8, h9⟩ := h
  refine (hc _ h9).mono ?_
  rintro e w' ⟨hp, h10⟩
  refine ⟨hp, own_same2 h1 (fun g hg => ?_), own_same2 h2 (fun g hg => ?_), h3, km, ke, h4, h5, h6, h7, h8, h10⟩
  · obtain ⟨o, ho⟩ := h4 g hg
    rw [h9.row (b := g) (o := o) (List.mem_append_left _ ho), h10.row (b := g) (o := o) (List.mem_append_left _ ho)]
  · obtain ⟨o, ho⟩ := h6 g hg
    rw [h9.row (b := g) (o := o) (List.mem_append_right _ (List.mem_append_left _ ho)), h10.row (b := g) (o := o) (List.mem_append_right _ (List.mem_append_left _ ho))]
/-- the same, with what the call tells besides -/
theorem LF.callX (h : LF w wr rd ks vm M ve E W) {f : Nat} {args : Array Value} {β : Type} {P : β → Ending → Prop} {wr' : β → Option (Nat × Bits)} {rd' : β → Option (Nat × ByteArray × Nat)}
    (hc : ∀ ks1, FS w wr rd ks1 W → Calls Tryd.prog f args W fun e w' => ∃ b, P b e ∧ FS w (wr' b) (rd' b) ks1 w') : Calls Tryd.prog f args W fun e w' => ∃ b, P b e ∧ LF w (wr' b) (rd' b) ks vm M ve E w' := by
  obtain ⟨h1, h2, h3, km, ke, h4, h5, h6, h7, h8, h9⟩ := h
  refine (hc _ h9).mono ?_
  rintro e w' ⟨b, hp, h10⟩
  refine ⟨b, hp, own_same2 h1 (fun g hg => ?_), own_same2 h2 (fun g hg => ?_), h3, km, ke, h4, h5, h6, h7, h8, h10⟩
  · obtain ⟨o, ho⟩ := h4 g hg
    rw [h9.row (b := g) (o := o) (List.mem_append_left _ ho), h10.row (b := g) (o := o) (List.mem_append_left _ ho)]
  · obtain ⟨o, ho⟩ := h6 g hg
    rw [h9.row (b := g) (o := o) (List.mem_append_right _ (List.mem_append_left _ ho)), h10.row (b := g) (o := o) (List.mem_append_right _ (List.mem_append_left _ ho))]
theorem own_new {v v' : Value} {n : Nat} (hw : v'.ownBlock = v.ownBlock ∨ v'.ownBlock = some n) {b : Nat} (hb : b < n) (hne : some b ≠ v.ownBlock) : some b ≠ v'.ownBlock := fun e => by
  rcases hw with h | h
  · exact hne (e.trans h)
  · rw [h] at e
    injection e with e
    omega
theorem own_ks {W2 : World} {T : TypeId} {sz n : Nat} {v' : Value} {xs : List Value} (own : W2.ownsRow 0 T sz v' n xs) : ∃ ks2 : List (Nat × Obj), (∀ g, v'.ownBlock = some g → ∃ o, (g, o) ∈ ks2) ∧ (∀ p ∈ ks2, some p.1 = v'.ownBlock) ∧ ∀ p ∈ ks2, W2.heap[p.1]? = some p.2 := by
  rcases hv : v'.ownBlock with _ | g
  · exact ⟨[], fun _ hg => (by cases hg), fun _ hp => (by cases hp), fun _ hp => (by cases hp)⟩
  · obtain ⟨o, ho⟩ := own_block2 own hv
    refine ⟨[(g, o)], fun g' hg' => ⟨o, by cases hg'; exact List.mem_cons_self ..⟩, fun p hp => ?_, fun p hp => ?_⟩
    · rw [List.mem_singleton.1 hp]
    · rw [List.mem_singleton.1 hp]; exact ho
theorem LF.addM (h : LF w wr rd ks vm M ve E W) {W2 : World} {v' : Value} (o : One) (own : W2.ownsRow 0 33 7 v' (M.length + 1) (onesV M ++ o.cells)) (hg : W.grownBy W2 vm.ownBlock)
    (hw : v'.ownBlock = vm.ownBlock ∨ v'.ownBlock = some W.heap.size) : LF w wr rd ks v' (M ++ [o]) ve E W2 := by
  obtain ⟨h1, h2, h3, km, ke, h4, h5, h6, h7, h8, h9⟩ := h
  obtain ⟨k2, hk1, hk2, hk3⟩ := own_ks own
  have lt : ∀ p ∈ km ++ (ke ++ ks), p.1 < W.heap.size := fun p hp => lt_of_block (h9.row (b := p.1) (o := p.2) hp)
  have he : ∀ g, ve.ownBlock = some g → some g ≠ vm.ownBlock := fun g hg e => h3 g e.symm hg
  refine ⟨by rw [onesV_snoc, List.length_append]; exact own, own_same2 h2 (fun g hgv => hg.block g ((h2.lt g hgv).2) (he g hgv)), fun g hgv e => ?_, k2, ke, hk1, hk2, h6, h7, fun p hp => ⟨own_new hw (lt p (List.mem_append_right _ (List.mem_append_right _ hp))) (h8 p hp).1, (h8 p hp).2⟩, h9.grown hg (fun g e => ?_) (fun p hp => ?_)⟩
  · have := own_new hw (h2.lt g e).2 (he g e)
    exact this hgv.symm
  · obtain ⟨o, ho⟩ := h4 g e
    exact ⟨o, List.mem_append_left _ ho⟩
  · rcases List.mem_append.1 hp with hp | hp
    · refine .inr ⟨?_, hk3 p hp⟩
      rcases hw with h | h
      · exact .inl ((hk2 p hp).trans h)
      · refine .inr ?_
        have := (hk2 p hp).trans h
        injection this with this
        omega
    · refine .inl ⟨List.mem_append_right _ hp, ?_⟩
      rcases List.mem_append.1 hp with hp | hp
      · exact he _ (h7 p hp).symm
      · exact (h8 p hp).1
theorem LF.addE (h : LF w wr rd ks vm M ve E W) {W2 : World} {v' : Value} (z : Nat) (own : W2.ownsRow 0 3 1 v' (E.length + 1) (intV E ++ [.int .i64 (z : Int)])) (hg : W.grownBy W2 ve.ownBlock)
    (hw : v'.ownBlock = ve.ownBlock ∨ v'.ownBlock = some W.heap.size) : LF w wr rd ks vm M v' (E ++ [z]) W2 := by
  obtain ⟨h1, h2, h3, km, ke, h4, h5, h6, h7, h8, h9⟩ := h
  obtain ⟨k2, hk1, hk2, hk3⟩ := own_ks own
  have lt : ∀ p ∈ km ++ (ke ++ ks), p.1 < W.heap.size := fun p hp => lt_of_block (h9.row (b := p.1) (o := p.2) hp)
  have he : ∀ g, vm.ownBlock = some g → some g ≠ ve.ownBlock := fun g hg e => h3 g hg e.symm
  refine ⟨own_same2 h1 (fun g hgv => hg.block g ((h1.lt g hgv).2) (he g hgv)), by rw [intV_append, List.length_append]; exact own, fun g hgv e => own_new hw (h1.lt g hgv).2 (he g hgv) e.symm, km, k2, h4, h5, hk1, hk2, fun p hp => ⟨(h8 p hp).1, own_new hw (lt p (List.mem_append_right _ (List.mem_append_right _ hp))) (h8 p hp).2⟩, h9.grown hg (fun g e => ?_) (fun p hp => ?_)⟩
  · obtain ⟨o, ho⟩ := h6 g e
    exact ⟨o, List.mem_append_right _ (List.mem_append_left _ ho)⟩
  · rcases List.mem_append.1 hp with hp | hp
    · exact .inl ⟨List.mem_append_left _ hp, he _ (h5 p hp).symm⟩
    · rcases List.mem_append.1 hp with hp | hp
      · refine .inr ⟨?_, hk3 p hp⟩
        rcases hw with h | h
        · exact .inl ((hk2 p hp).trans h)
        · refine .inr ?_
          have := (hk2 p hp).trans h
          injection this with this
          omega
      · exact .inl ⟨List.mem_append_right _ (List.mem_append_right _ hp), (h8 p hp).2⟩
/-- the rows' own cells -/
theorem LF.cellM (h : LF w wr rd ks vm M ve E W) (j : Nat) (hj : j < M.length) : ∃ g cap, vm = .slice (some ⟨g, 0, none⟩) M.length cap ∧ M.length ≤ cap ∧ ∀ k, k < 7 → W.cell? ⟨g, 7 * j + k, none⟩ = (M[j].cells)[k]? := by
  rcases h.1.2 with ⟨_, h0⟩ | ⟨g, cap, cur, rfl, _, _, hn, _⟩
  · omega
  · refine ⟨g, cap, rfl, hn, fun k hk => ?_⟩
    rw [h.1.cellAt (7 * j + k) (by omega)]
    exact onesV_get M j k hj hk
theorem LF.cellE (h : LF w wr rd ks vm M ve E W) (j : Nat) (hj : j < E.length) : ∃ g cap, ve = .slice (some ⟨g, 0, none⟩) E.length cap ∧ E.length ≤ cap ∧ W.cell? ⟨g, j, none⟩ = some (.int .i64 (E[j] : Int)) := by
  rcases h.2.1.2 with ⟨_, h0⟩ | ⟨g, cap, cur, rfl, _, _, hn, _⟩
  · omega
  · refine ⟨g, cap, rfl, hn, ?_⟩
    rw [h.2.1.cellAt j (by omega)]
    simp [intV, hj]
end
theorem one_one (o : One) : ∀ u ∈ o.cells, u.oneCell' = true := by
  intro u hu
  unfold One.cells at hu
  simp only [List.mem_cons, List.not_mem_nil, or_false] at hu
  rcases hu with rfl | rfl | rfl | rfl | rfl | rfl | rfl <;> rfl
end Go.Proofs.YtflnpcgnenhogaaDoor.ls
