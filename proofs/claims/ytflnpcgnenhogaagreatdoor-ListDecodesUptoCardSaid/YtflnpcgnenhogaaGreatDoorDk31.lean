/- Own lemmas, laid together. -/
import Derived.Test.YtflnpcgnenhogaaGreatDoorDk30
import Derived.Test.YtflnpcgnenhogaaGreatDoorDk29
import Derived.Test.YtflnpcgnenhogaaGreatDoorDk28
import Derived.Test.YtflnpcgnenhogaaGreatDoorDk20
namespace Go.Proofs.YtflnpcgnenhogaaGreatDoor.ls
open Go.RowKit Go.Proofs.YtflnpcgnenhogaaGreatDoor.own Go.Proofs.YtflnpcgnenhogaaGreatDoor.bit

theorem cpy_sub {B : Bits} : ∀ (c i : Nat) (ref : List Nat) (a : Nat) (t : List Nat × List Nat × Nat), cpy B c i ref a = some t → (t.1 ++ t.2.1).Sublist ref
 | 0, i, ref, a, t, h => by injection h with h; subst h; exact List.Sublist.refl _
 | c + 1, i, ref, a, t, h => by
  rw [cpy] at h
  cases ht : tk B .gam ref.length a with
  | none => rw [ht] at h; cases h
  | some q =>
   rw [ht, Option.bind_some] at h
   split at h
   ·cases h
   ·cases hc : cpy B c (i + 1) (ref.drop (q.1 + min i 1)) q.2 with
    | none => rw [hc] at h; cases h
    | some t2 =>
     rw [hc] at h
     injection h with h
     subst h
     have ih := cpy_sub c _ _ _ t2 hc
     have e : ref = ref.take (q.1 + min i 1) ++ ref.drop (q.1 + min i 1) := (List.take_append_drop _ _).symm
     show ((if i % 2 = 0 then ref.take (q.1 + min i 1) else []) ++ t2.1 ++ t2.2.1).Sublist ref
     rw [List.append_assoc]
     split
     ·have k := List.Sublist.append (List.Sublist.refl (ref.take (q.1 + min i 1))) ih
      rwa [List.take_append_drop] at k
     ·rw [List.nil_append]
      exact ih.trans (List.drop_sublist _ _)
theorem copies_sub {B : Bits} {ref : List Nat} {a : Nat} {t : List Nat × Nat} (h : copies B ref a = some t) : t.1.Sublist ref := by
 unfold copies at h
 cases ht : tk B .gam (ref.length + 1) a with
 | none => rw [ht] at h; cases h
 | some q =>
  rw [ht, Option.bind_some] at h
  cases hc : cpy B q.1 0 ref q.2 with
  | none => rw [hc] at h; cases h
  | some t2 =>
   rw [hc] at h
   injection h with h
   subst h
   have ih := cpy_sub _ _ _ _ t2 hc
   show (if q.1 % 2 = 0 then t2.1 ++ t2.2.1 else t2.1).Sublist ref
   split
   ·exact ih
   ·exact (List.sublist_append_left _ _).trans ih
theorem row_ris (f n : Nat) : (row (f, n)).Pairwise (· < ·) := List.pairwise_lt_range' (s := f) (n := n)
theorem row_mem {f n v : Nat} (h : v ∈ row (f, n)) : f ≤ v ∧ v < f + n := by
 unfold row at h
 have := List.mem_range'_1.1 h
 dsimp only at this
 omega
theorem lng_ris {B : Bits} {x most itv : Nat} (hi : 1 ≤ itv) : ∀ (c : Nat) (e : Option Nat) (used a : Nat) (t : List Nat × Nat), lng B x most itv c e used a = some t → t.1.Pairwise (· < ·) ∧ ∀ e', e = some e' → ∀ v ∈ t.1, e' < v
 | 0, e, used, a, t, h => by injection h with h; subst h; exact ⟨List.Pairwise.nil, fun _ _ v hv => by cases hv⟩
 | c + 1, e, used, a, t, h => by
  rw [lng] at h
  cases ht : tk B .gam 262144 a with
  | none => rw [ht] at h; cases h
  | some q =>
   rw [ht, Option.bind_some] at h
   cases ht2 : tk B .gam most q.2 with
   | none => rw [ht2] at h; cases h
   | some q2 =>
    rw [ht2, Option.bind_some] at h
    split at h
    ·cases h
    ·next hno =>
     cases hc : lng B x most itv c (some ((rowFrom x e q.1).toNat + (q2.1 + itv) - 1)) (used + (q2.1 + itv)) q2.2 with
     | none => rw [hc] at h; cases h
     | some t2 =>
      rw [hc] at h
      injection h with h
      subst h
      obtain ⟨i1, i2⟩ := lng_ris hi c _ _ _ t2 hc
      obtain ⟨f, hf⟩ : ∃ f, (rowFrom x e q.1).toNat = f := ⟨_, rfl⟩
      rw [hf] at i2 ⊢
      refine ⟨List.pairwise_append.2 ⟨row_ris _ _, i1, fun u hu v hv => ?_⟩, fun e' he v hv => ?_⟩
      ·have := row_mem hu
       have := i2 _ rfl v hv
       omega
      ·subst he
       have hfe : e' < f := by
        have : rowFrom x (some e') q.1 = (q.1 : Int) + ((e' : Int) + 2) := rfl
        omega
       rcases List.mem_append.1 hv with hv | hv
       ·have := row_mem hv
        omega
       ·have := i2 _ rfl v hv
        omega
theorem longs_ris {B : Bits} {x most itv a : Nat} (hi : 1 ≤ itv) {t : List Nat × Nat} (h : longs B x most itv a = some t) : t.1.Pairwise (· < ·) := by
 unfold longs at h
 cases ht : tk B .gam most a with
 | none => rw [ht] at h; cases h
 | some q =>
  rw [ht, Option.bind_some] at h
  exact (lng_ris hi _ _ _ _ t h).1
theorem rsd_ris {B : Bits} {x zet : Nat} : ∀ (n : Nat) (e : Option Nat) (a : Nat) (t : List Nat × Nat), rsd B x zet n e a = some t → t.1.Pairwise (· < ·) ∧ t.1.length = n ∧ ∀ e', e = some e' → ∀ v ∈ t.1, e' < v
 | 0, e, a, t, h => by injection h with h; subst h; exact ⟨List.Pairwise.nil, rfl, fun _ _ v hv => by cases hv⟩
 | n + 1, e, a, t, h => by
  rw [rsd] at h
  cases ht : tk B (.zet zet) 262144 a with
  | none => rw [ht] at h; cases h
  | some q =>
   rw [ht, Option.bind_some] at h
   split at h
   ·cases h
   ·next hno =>
    cases hc : rsd B x zet n (some (resAt x e q.1).toNat) q.2 with
    | none => rw [hc] at h; cases h
    | some t2 =>
     rw [hc] at h
     injection h with h
     subst h
     obtain ⟨i1, i3, i2⟩ := rsd_ris n _ _ t2 hc
     obtain ⟨f, hf⟩ : ∃ f, (resAt x e q.1).toNat = f := ⟨_, rfl⟩
     rw [hf] at i2 ⊢
     refine ⟨List.pairwise_cons.2 ⟨fun v hv => i2 _ rfl v hv, i1⟩, by show t2.1.length + 1 = n + 1; rw [i3], fun e' he v hv => ?_⟩
     subst he
     have hfe : e' < f := by
      have : resAt x (some e') q.1 = (q.1 : Int) + ((e' : Int) + 1) := rfl
      omega
     rcases List.mem_cons.1 hv with rfl | hv
     ·exact hfe
     ·have := i2 _ rfl v hv
      omega
/-! ### residuals, round by round -/
def RsdL (F : Option (List Nat × Nat)) (B : Bits) (x zet m i : Nat) (e : Option Nat) (l : List Nat) (p : Nat) : Prop :=
 i ≤ m ∧ l.length = i ∧ (∀ v ∈ l, v < 65536) ∧ (∀ e', e = some e' → e' < 65536) ∧ (i = 0 ↔ e = none) ∧ F = (rsd B x zet (m - i) e p).map fun t => (l ++ t.1, t.2)
theorem rsd_succ (B : Bits) (x zet n : Nat) (e : Option Nat) (p : Nat) : rsd B x zet (n + 1) e p = (tk B (.zet zet) 262144 p).bind fun q => if resAt x e q.1 < 0 ∨ 65536 ≤ resAt x e q.1 then none else
      (rsd B x zet n (some (resAt x e q.1).toNat) q.2).map fun t => ((resAt x e q.1).toNat :: t.1, t.2) := rfl
section
variable {F : Option (List Nat × Nat)} {B : Bits} {x zet m i p v p2 : Nat} {e : Option Nat} {l : List Nat} {b2 : Bool}
theorem RsdL.start (B : Bits) (x zet m p : Nat) : RsdL (rsd B x zet m none p) B x zet m 0 none [] p :=
 ⟨Nat.zero_le _, rfl, fun v hv => (by cases hv), fun e' h => (by cases h), ⟨fun _ => rfl, fun _ => rfl⟩, by
  show rsd B x zet m none p = Option.map _ (rsd B x zet m none p)
  cases rsd B x zet m none p <;> rfl⟩
theorem RsdL.no (h : RsdL F B x zet m i e l p) (hi : i < m) (t1 : TakeD (tk B (.zet zet) 262144 p) 262144 false v p2 b2) (hno : (b2 || zagBad x e v) = true ∨ 65536 ≤ resAt x e v) : F = none := by
 obtain ⟨h1, h2, h3, h4, h5, eq⟩ := h
 rw [show m - i = (m - i - 1) + 1 by omega, rsd_succ] at eq
 rw [eq]
 cases hk : tk B (.zet zet) 262144 p with
 | none => rfl
 | some q =>
  obtain ⟨rfl, rfl, rfl⟩ := t1.1 q hk rfl
  show (if _ then none else _).map _ = none
  rw [if_pos]
  ·rfl
  rcases hno with h | h
  ·rw [Bool.false_or] at h
   cases e with
   | some e' => cases h
   | none =>
    have h9 : zag q.1 + (x : Int) < 0 ∨ 65536 ≤ zag q.1 + (x : Int) := of_decide_eq_true h
    exact h9
  ·exact .inr h
theorem RsdL.step (h : RsdL F B x zet m i e l p) (hi : i < m) (t1 : TakeD (tk B (.zet zet) 262144 p) 262144 false v p2 b2) (hb : (b2 || zagBad x e v) = false) (h8 : resAt x e v < 65536) :
  0 ≤ resAt x e v ∧ RsdL F B x zet m (i + 1) (some (resAt x e v).toNat) (l ++ [(resAt x e v).toNat]) p2 := by
 obtain ⟨h1, h2, h3, h4, h5, eq⟩ := h
 rw [show m - i = (m - (i + 1)) + 1 by omega, rsd_succ] at eq
 have hb2a : b2 = false := by cases b2 <;> simp_all
 have hz : zagBad x e v = false := by cases b2 <;> simp_all
 subst hb2a
 cases hk : tk B (.zet zet) 262144 p with
 | none => have := (t1.2.1 (.inr hk)).2; cases this
 | some q =>
  obtain ⟨rfl, rfl, -⟩ := t1.1 q hk rfl
  have hpos : 0 ≤ resAt x e q.1 := by
   cases e with
   | none =>
    have h9 : ¬ (zag q.1 + (x : Int) < 0 ∨ 65536 ≤ zag q.1 + (x : Int)) := of_decide_eq_false hz
    show 0 ≤ zag q.1 + (x : Int)
    omega
   | some e' =>
    show 0 ≤ (q.1 : Int) + ((e' : Int) + 1)
    omega
  rw [hk, Option.bind_some, if_neg (by omega)] at eq
  refine ⟨hpos, by omega, by rw [List.length_append, h2]; rfl, fun v hv => ?_, fun e' he => ?_, ⟨fun h => by omega, fun h => by cases h⟩, ?_⟩
  ·rcases List.mem_append.1 hv with hv | hv
   ·exact h3 v hv
   ·rw [List.mem_singleton.1 hv]
    omega
  ·cases he
   omega
  ·rw [eq, Option.map_map]
   exact congrArg (fun f => Option.map f _) (funext fun t => by simp [Function.comp])
theorem RsdL.fin (h : RsdL F B x zet m i e l p) (he : i = m) : F = some (l, p) := by
 obtain ⟨h1, h2, h3, h4, h5, eq⟩ := h
 subst he
 rw [eq, Nat.sub_self]
 show some (l ++ [], p) = some (l, p)
 rw [List.append_nil]
theorem resAt_bound (hx : x < 65536) (he : ∀ e', e = some e' → e' < 65536) (hv : v ≤ 262144) : -200000 ≤ resAt x e v ∧ resAt x e v ≤ 400000 := by
 cases e with
 | none =>
  show -200000 ≤ zag v + x ∧ zag v + x ≤ 400000
  unfold zag
  split <;> omega
 | some e =>
  have := he e rfl
  show -200000 ≤ (v : Int) + ((e : Int) + 1) ∧ (v : Int) + ((e : Int) + 1) ≤ 400000
  omega
end
/-! ### what bits say, merged -/
def dOut (z : Option (List Nat × List Nat × List Nat × Nat)) : Option (List Nat × Nat) :=
 z.bind fun t => if (srtN (t.1 ++ t.2.1 ++ t.2.2.1)).Pairwise (· < ·) then some (srtN (t.1 ++ t.2.1 ++ t.2.2.1), t.2.2.2) else none
/-- merged twice: the same as sorted -/
theorem dOut_mrg {c l z : List Nat} {p : Nat} (hc : c.Pairwise (· < ·)) (hl : l.Pairwise (· < ·)) (hz : z.Pairwise (· < ·)) :
  dOut (some (c, l, z, p)) = ((mrg c l).bind fun o => mrg o z).map fun s => (s, p) := by
 show (if (srtN (c ++ l ++ z)).Pairwise (· < ·) then some (srtN (c ++ l ++ z), p) else none) = _
 have fwd : ∀ s, ((mrg c l).bind fun o => mrg o z) = some s → srtN (c ++ l ++ z) = s ∧ s.Pairwise (· < ·) := fun s hs => by
  cases h1 : mrg c l with
  | none => rw [h1] at hs; cases hs
  | some o =>
   rw [h1, Option.bind_some] at hs
   have p1 := mrg_mem _ _ _ _ (Nat.le_refl _) h1
   have p2 := mrg_mem _ _ _ _ (Nat.le_refl _) hs
   have r1 := mrg_ris _ _ _ _ (Nat.le_refl _) hc hl h1
   have r2 := mrg_ris _ _ _ _ (Nat.le_refl _) r1 hz hs
   exact ⟨srtN_eq (p2.trans (p1.append_right z)) r2, r2⟩
 by_cases h : (srtN (c ++ l ++ z)).Pairwise (· < ·)
 ·rw [if_pos h]
  have nd : (c ++ l ++ z).Nodup := (srtN_perm _).nodup_iff.1 (nodup_of h)
  have nd1 := List.nodup_append.1 nd
  have nd2 := List.nodup_append.1 nd1.1
  obtain ⟨o, ho⟩ := mrg_some _ c l (Nat.le_refl _) hc hl (fun v h1 h2 => nd2.2.2 v h1 v h2 rfl)
  have p1 := mrg_mem _ _ _ _ (Nat.le_refl _) ho
  obtain ⟨s, hs⟩ := mrg_some _ o z (Nat.le_refl _) (mrg_ris _ _ _ _ (Nat.le_refl _) hc hl ho) hz (fun v h1 h2 => nd1.2.2 v (p1.mem_iff.1 h1) v h2 rfl)
  have e : ((mrg c l).bind fun o => mrg o z) = some s := by rw [ho, Option.bind_some, hs]
  rw [e, (fwd s e).1]
  rfl
 ·rw [if_neg h]
  cases e : ((mrg c l).bind fun o => mrg o z) with
  | none => rfl
  | some s =>
   have := fwd s e
   rw [this.1] at h
   exact absurd this.2 h
theorem cop0_sub {B : Bits} {ref : List Nat} {r a : Nat} {t : List Nat × Nat} (h : cop0 B ref r a = some t) : t.1.Sublist ref := by
 unfold cop0 at h
 split at h
 ·exact copies_sub h
 ·injection h with h
  subst h
  exact List.nil_sublist _
theorem lng0_ris {B : Bits} {x deg itv a : Nat} {c : List Nat} {t : List Nat × Nat} (h : lng0 B x deg itv c a = some t) : t.1.Pairwise (· < ·) := by
 unfold lng0 at h
 split at h
 ·next hc => exact longs_ris hc.2 h
 ·injection h with h
  subst h
  exact List.Pairwise.nil
theorem dOut_none1 {B : Bits} {x deg : Nat} {ref : List Nat} {r : Nat} {p : Pr} {a : Nat} (h : cop0 B ref r a = none) : dOut (pars B x deg ref r p a) = none := by
 rw [pars_eq, h]
 rfl
theorem dOut_none2 {B : Bits} {x deg : Nat} {ref : List Nat} {r : Nat} {p : Pr} {a : Nat} {c : List Nat} {p1 : Nat} (h : cop0 B ref r a = some (c, p1)) (hd : deg < c.length) : dOut (pars B x deg ref r p a) = none := by
 rw [pars_eq, h, Option.bind_some, if_pos hd]
 rfl
theorem dOut_none3 {B : Bits} {x deg : Nat} {ref : List Nat} {r : Nat} {p : Pr} {a : Nat} {c : List Nat} {p1 : Nat} (h : cop0 B ref r a = some (c, p1)) (hd : ¬ deg < c.length) (hl : lng0 B x deg p.itv c p1 = none) : dOut (pars B x deg ref r p a) = none := by
 rw [pars_eq, h, Option.bind_some, if_neg hd, hl]
 rfl
theorem dOut_eq {B : Bits} {x deg : Nat} {ref : List Nat} {r : Nat} {p : Pr} {a : Nat} {c l : List Nat} {p1 p2 : Nat} (hr : ref.Pairwise (· < ·)) (h : cop0 B ref r a = some (c, p1)) (hd : ¬ deg < c.length) (hl : lng0 B x deg p.itv c p1 = some (l, p2)) :
  dOut (pars B x deg ref r p a) = (rsd B x p.zet (deg - c.length - l.length) none p2).bind fun q => ((mrg c l).bind fun o => mrg o q.1).map fun s => (s, q.2) := by
 rw [pars_eq, h, Option.bind_some, if_neg hd, hl, Option.bind_some]
 dsimp only
 cases hz : rsd B x p.zet (deg - c.length - l.length) none p2 with
 | none => rfl
 | some q => exact dOut_mrg (hr.sublist (cop0_sub h)) (lng0_ris hl) (rsd_ris _ _ _ _ hz).1
end Go.Proofs.YtflnpcgnenhogaaGreatDoor.ls
namespace Go.Proofs.YtflnpcgnenhogaaGreatDoor.ls
open Go.RowKit Go.Proofs.YtflnpcgnenhogaaGreatDoor.own Go.Proofs.YtflnpcgnenhogaaGreatDoor.bit

theorem KA.stands {W : World} {base : Nat} {ka : List (Nat × Obj)} {v : Value} {l : List Nat} (hk : KA ka v) (h : W.ownsRow base 77 1 v l.length (u32V l)) (hl : l.length ≤ 1000000) (hb : ∀ x ∈ l, x < 4294967296) (hW : ∀ p ∈ ka, W.heap[p.1]? = some p.2) :
  ∃ (s : Option Addr) (d : Nat), v = .slice s l.length d ∧ l.length ≤ d ∧ Stands ka s l := by
 rcases h.2 with ⟨rfl, h0⟩ | ⟨g, cap, cur, rfl, hbg, hg, hn, _, _, htake⟩
 ·have hl0 : l = [] := List.eq_nil_of_length_eq_zero h0
  subst hl0
  exact ⟨(Option.none : Option Addr), 0, rfl, Nat.le_refl _, fun W _ => LV.nil⟩
 ·obtain ⟨o, ho⟩ := hk.1 g rfl
  have ho2 := hW _ ho
  dsimp only at ho2
  rw [hg] at ho2
  injection ho2 with ho2
  subst ho2
  refine ⟨_, cap, rfl, hn, fun W' hW' => ⟨by omega, fun i hi => ?_⟩⟩
  have hr := hW' _ ho
  refine ⟨g, 0, rfl, lt_of_block hr, ?_, hb _ (List.getElem_mem hi)⟩
  have hx : (u32V l)[i]? = some (.int .u32 (l[i] : Int)) := by unfold u32V; rw [List.getElem?_map, List.getElem?_eq_getElem hi]; rfl
  rw [← htake, List.getElem?_take_of_lt (by omega)] at hx
  rw [Nat.zero_add, cell_of_row _ _ _ _ _ _ hr, ← Array.getElem?_toList]
  exact hx
/-- a reader of the document's; rows of a call's own, blocks beside -/
def DRR (w : World) (wr : Option (Nat × Bits)) (rd : Option (Nat × ByteArray × Nat)) (rb : Nat) (aB : Option Addr) (dB : Nat) (B : Bits) (p : Nat) (rs : List Rw) (K : List (Nat × Obj)) (W : World) : Prop :=
 Rws w wr rd rs ((rb, rdRow aB dB B p) :: K) W ∧ (∀ q ∈ K, q.1 ≠ rb) ∧ BSt K aB B ∧ p ≤ B.length ∧ B.length ≤ dB ∧ B.length ≤ 4611686018427387903 ∧ (aB = none ∧ dB = 0 ∨ ∃ g o, aB = some ⟨g, o, none⟩)
section
variable {w W W2 : World} {wr : Option (Nat × Bits)} {rd : Option (Nat × ByteArray × Nat)} {rb : Nat} {aB : Option Addr} {dB : Nat} {B : Bits} {tb p : Nat} {bad : Bool} {rs : List Rw} {K K' : List (Nat × Obj)} {v : Value} {l : List Nat}
theorem DTR.still (h : DTR w wr rd rb aB dB B tb p bad (⟨77, v, u32V l⟩ :: rs) K W) (hl : l.length ≤ 1000000) (hb : ∀ x ∈ l, x < 4294967296) :
  ∃ (ka : List (Nat × Obj)) (s : Option Addr) (d : Nat), v = .slice s l.length d ∧ l.length ≤ d ∧ Stands ka s l ∧ DTR w wr rd rb aB dB B tb p bad rs (ka ++ K) W := by
 obtain ⟨⟨ka, h1, h2, h3, h4⟩, h5, h6, h7, h8⟩ := h
 unfold Rw.owned at h2
 dsimp only at h1 h2 h3
 rw [u32V_length] at h2
 obtain ⟨s, d, e1, e2, e3⟩ := h1.stands h2 hl hb (fun p hp => h4.has (List.mem_append_left _ hp))
 refine ⟨ka, s, d, e1, e2, e3, h4.sub (fun q hq => ?_), fun q hq => ?_, h6, h7.more (fun q hq => List.mem_append_right _ hq), h8⟩
 ·simp only [List.mem_cons, List.mem_append] at hq ⊢
  rcases hq with hq | hq | hq | hq
  ·exact .inr (.inl hq)
  ·exact .inr (.inr (.inl hq))
  ·exact .inl hq
  ·exact .inr (.inr (.inr hq))
 ·rcases List.mem_append.1 hq with hq | hq
  ·have hr := h1.2 q hq
   exact ⟨fun e => h3 (rb, _) (List.mem_cons_self ..) (by show some rb = _; rw [← e]; exact hr), fun e => h3 (tb, _) (List.mem_cons_of_mem _ (List.mem_cons_self ..)) (by show some tb = _; rw [← e]; exact hr)⟩
  ·exact h5 q hq
theorem DTR.fresh (h : DTR w wr rd rb aB dB B tb p bad rs K W) (k : Below W.heap.size W W2) (own : W2.ownsRow W.heap.size 77 1 v l.length (u32V l)) : DTR w wr rd rb aB dB B tb p bad (⟨77, v, u32V l⟩ :: rs) K W2 :=
 ⟨h.1.fresh k (by rw [u32V_length]; exact own), h.2⟩
theorem DTR.drop (h : DTR w wr rd rb aB dB B tb p bad rs K W) : DRR w wr rd rb aB dB B p rs K W :=
 ⟨h.1.sub (fun q hq => by
  simp only [List.mem_cons] at hq ⊢
  rcases hq with hq | hq
  ·exact .inl hq
  ·exact .inr (.inr hq)), fun q hq => (h.2.1 q hq).1, h.2.2.2⟩
theorem DRR.less (h : DRR w wr rd rb aB dB B p rs K W) (hs : ∀ q ∈ K', q ∈ K) (hb : BSt K' aB B) : DRR w wr rd rb aB dB B p rs K' W :=
 ⟨h.1.sub (fun q hq => by
  simp only [List.mem_cons] at hq ⊢
  rcases hq with hq | hq
  ·exact .inl hq
  ·exact .inr (hs q hq)), fun q hq => h.2.1 q (hs q hq), hb, h.2.2.2⟩
theorem DRR.next (h : DRR w wr rd rb aB dB B p rs K W) (k : Below W.heap.size W W2) : DRR w wr rd rb aB dB B p rs K W2 := ⟨h.1.next k, h.2⟩
theorem DRR.has (h : DRR w wr rd rb aB dB B p rs K W) {q : Nat × Obj} (hq : q ∈ K) : W.heap[q.1]? = some q.2 := h.1.has (List.mem_cons_of_mem _ hq)
theorem DRR.below (h : DRR w wr rd rb aB dB B p rs K W) : Below w.heap.size w W := h.1.below
theorem DRR.cells (h : DRR w wr rd rb aB dB B p rs K W) : W.cell? ⟨rb, 0, none⟩ = some (.slice aB B.length dB) ∧ W.cell? ⟨rb, 1, none⟩ = some (.int .i64 (p : Int)) ∧ W.frozen? ⟨rb, 1, none⟩ = false := by
 have r : W.heap[rb]? = some (rdRow aB dB B p) := h.1.has (p := (rb, rdRow aB dB B p)) (List.mem_cons_self ..)
 unfold rdRow at r
 exact ⟨by rw [cell_of_row _ _ _ _ _ _ r]; rfl, by rw [cell_of_row _ _ _ _ _ _ r]; rfl, frozen_of_row W rb 1 _ _ r⟩
theorem DRR.lone (h : DRR w wr rd rb aB dB B p [] K W) : DRd w wr rd rb aB dB B p K W := h
theorem DRd.rows (h : DRd w wr rd rb aB dB B p K W) : DRR w wr rd rb aB dB B p [] K W := h
theorem DRR.set (h : DRR w wr rd rb aB dB B p rs K W) (p' : Nat) (hp : p' ≤ B.length) : DRR w wr rd rb aB dB B p' rs K (W.setCell ⟨rb, 1, none⟩ (.int .i64 (p' : Int))) :=
 ⟨h.1.store (j := 1) (.int .i64 (p' : Int)) h.2.1, h.2.1, h.2.2.1, hp, h.2.2.2.2⟩
/-- a taker is made -/
theorem DTk.start (h : DRd w wr rd rb aB dB B p K W) : DTk w wr rd rb aB dB B W.heap.size p false K (W.alloc (.cells #[.pointer (some ⟨rb, 0, none⟩), .bool false] 155)) :=
 ⟨h.add _ _, fun q hq e => by
  have := lt_of_block (h.1.row (b := q.1) (o := q.2) (List.mem_cons_of_mem _ hq))
  omega, h.2.2.1⟩
end
/-- what decode answers -/
def DocP (z : Option (List Nat × Nat)) (deg : Nat) (w : World) (wr : Option (Nat × Bits)) (rd : Option (Nat × ByteArray × Nat)) (rb : Nat) (aB : Option Addr) (dB : Nat) (B : Bits) (K : List (Nat × Obj)) (e : Ending) (w' : World) : Prop :=
 ∃ (v : Value) (l : List Nat) (p' : Nat) (ok : Bool), e = .returned (.tuple #[v, .bool ok]) ∧ (ok = true → z = some (l, p') ∧ l.length = deg) ∧ (ok = false → z = none) ∧ l.length ≤ 1000000 ∧ (∀ u ∈ l, u < 65536) ∧ DRR w wr rd rb aB dB B p' [⟨77, v, u32V l⟩] K w'
end Go.Proofs.YtflnpcgnenhogaaGreatDoor.ls
namespace Go.Proofs.YtflnpcgnenhogaaGreatDoor.ls
open Go.RowKit Go.Proofs.YtflnpcgnenhogaaGreatDoor.own Go.Proofs.YtflnpcgnenhogaaGreatDoor.bit

set_option maxRecDepth 100000 in
set_option maxHeartbeats 6400000 in
theorem dcopies_none {w W : World} {wr : Option (Nat × Bits)} {rd : Option (Nat × ByteArray × Nat)} {rb : Nat} {aB : Option Addr} {dB : Nat} {B : Bits} {tb p : Nat} {K : List (Nat × Obj)} (h : DTk w wr rd rb aB dB B tb p false K W)
  (cap : Nat) :
  Calls Tryz.prog 84 #[.pointer (some ⟨tb, 0, none⟩), .slice none 0 cap] W (ListD (CopP (copies B [] p) 0) w wr rd rb aB dB B tb K) := by
 obtain ⟨j0, hj, hj0, hj1, hj2⟩ := info_parts Tryz.infoU32
 have HB6 := Lib.hid h.2.2
 have h9 := h.add #[.int .u8 1, .int .u64 0] 104
 obtain ⟨cb, hcb⟩ : ∃ z, W.heap.size = z := ⟨_, rfl⟩
 rw [hcb] at h9
 obtain ⟨K2, hK2⟩ : ∃ K', (cb, Obj.cells #[.int .u8 1, .int .u64 0] 104 (0, 0)) :: K = K' := ⟨_, rfl⟩
 rw [hK2] at h9
 have H0 := Lib.hid (h9.rows.lift (T := 77))
 have CC : Hid (∀ W' p' bad rs, DTR w wr rd rb aB dB B tb p' bad rs K2 W' → W'.cell? ⟨cb, 0, none⟩ = some (.int .u8 1) ∧ W'.cell? ⟨cb, 1, none⟩ = some (.int .u64 0)) := Lib.hid (fun W' p' bad rs h => by
  have r : W'.heap[cb]? = some (.cells #[.int .u8 1, .int .u64 0] 104 (0, 0)) := h.has (q := (cb, _)) (by rw [← hK2]; exact List.mem_cons_self ..)
  exact ⟨by rw [cell_of_row _ _ _ _ _ _ r]; rfl, by rw [cell_of_row _ _ _ _ _ _ r]; rfl⟩)
 have LS : Hid (∀ W' p' bad rs, DTR w wr rd rb aB dB B tb p' bad rs K2 W' → DTR w wr rd rb aB dB B tb p' bad rs K W') := Lib.hid (fun W' p' bad rs h => h.less (fun q hq => by rw [← hK2]; exact List.mem_cons_of_mem _ hq) HB6.out)
 have TT : Hid (∀ W' p' bad rs (_ : DTR w wr rd rb aB dB B tb p' bad rs K2 W') (mi : Int) (most : Nat) (_ : mi = (most : Int)) (_ : most ≤ 1000000), Calls Tryz.prog 87 #[.pointer (some ⟨tb, 0, none⟩), cdV .gam, .int .i64 mi] W' (DTakeR w wr rd rb aB dB B tb rs K2 (tk B .gam most p') most bad)) := Lib.hid (fun W' p' bad rs h mi most e hm => by
  subst e
  exact h.take .gam trivial most hm)
 obtain ⟨F, hF⟩ : ∃ F, copies B [] p = F := ⟨_, rfl⟩
 have HF : Hid (F = (tk B .gam 1 p).bind fun q => (cpy B q.1 0 [] q.2).map fun t => (if q.1 % 2 = 0 then t.1 ++ t.2.1 else t.1, t.2.2)) := Lib.hid (by rw [← hF]; rfl)
 rw [hF]
 unfold cdV at TT
 have T1 := Lib.hid (TT.out _ _ _ _ H0.out 1 1 rfl (by omega))
 obtain ⟨g0, g1⟩ := CC.out _ _ _ _ H0.out
 clear h hF h9 hK2
 go_enter Tryz.func84, Tryz.ntmps84
 go_wp2_with fail
 generalize World.alloc W _ = W0 at H0 T1 g0 g1 ⊢
 with_reducible refine T1.out.mono ?_
 rintro e w1 ⟨z, p1, bad1, rfl, hp, h1⟩
 have C1 : Hid (CopL F B [] z 0 0 [] p1 bad1) := Lib.hid (by
  obtain ⟨q1, q2, q3⟩ := hp
  refine ⟨Nat.zero_le _, Nat.zero_le _, Nat.le_refl _, fun v hv => (by cases hv), fun hb => ?_, fun hb => ?_⟩
  ·cases ht : tk B .gam 1 p with
   | none => rw [HF.out, ht]; rfl
   | some q => have := (q1 q ht rfl).2.2; rw [hb] at this; cases this
  ·cases ht : tk B .gam 1 p with
   | none => have := (q2 (.inr ht)).2; rw [hb] at this; cases this
   | some q =>
    obtain ⟨rfl, rfl, -⟩ := q1 q ht rfl
    rw [HF.out, ht]
    rfl)
 have hz : z ≤ 1 := hp.2.2
 have H1 := Lib.hid h1
 obtain ⟨g0, g1⟩ := CC.out _ _ _ _ h1
 clear hp h1 T1 HF H0
 go_wp2_with fail
 go_loopw [7, 8, 9] (fun v7 v8 v9 wl => CopS w wr rd rb aB dB B tb K2 F [] z v7 v8 v9 wl) (fun _ _ v9 _ => z - (intOf v9).toNat)
 case atStart => exact ⟨0, 0, [], p1, bad1, rfl, rfl, C1.out, H1.out⟩
 case round =>
  rename World => wl
  obtain ⟨i, k, l, p', bad, rfl, rfl, hC, hD⟩ := hrel
  have hk0 : k = 0 := Nat.le_zero.1 hC.2.1
  subst hk0
  have hl0 : l = [] := List.eq_nil_of_length_eq_zero (Nat.le_zero.1 hC.2.2.1)
  subst hl0
  have hi : i ≤ z := hC.1
  have CL := Lib.hid hC
  have OWN : Hid (wl.ownsRow 0 77 1 u7 0 (u32V [])) := Lib.hid hD.own
  obtain ⟨s7, c7, e7⟩ := own_shape OWN.out
  subst e7
  have D := Lib.hid hD
  obtain ⟨c1, c2, c3⟩ := hD.cells
  obtain ⟨g0, g1⟩ := CC.out _ _ _ _ hD
  have C3 : Hid (0 + 0 ≤ maxLen) := Lib.hid (Nat.zero_le _)
  have C4 : Hid ((0 + 0) * 4 ≤ 140737488355328) := Lib.hid (by omega)
  have b1 : (0 : Int) ≤ 0 := Int.le_refl _
  have e6 : IntKind.i64.wrap 0 = 0 := by decide
  clear hC hD
  by_cases hlt : i < z
  ·have i1 : decide ((i : Int) < (z : Int)) = true := decide_eq_true (by omega)
   cases bad with
   | false =>
    --A
    have T2 := Lib.hid (TT.out _ _ _ _ D.out 0 0 rfl (by omega))
    go_wp2_with fail
    with_reducible refine T2.out.mono ?_
    rintro e w2 ⟨v, p2, bad2, rfl, ht, h2⟩
    have hv0 : v = 0 := Nat.le_zero.1 ht.2.2
    subst hv0
    have hi0 : i = 0 := by omega
    have ST : Hid (CopL F B [] z (i + 1) 0 [] p2 bad2) := Lib.hid (by
     have h := CL.out.step (fun v hv => (by cases hv)) hlt ht (by rw [hi0]; exact Nat.le_refl _)
     rw [hi0] at h ⊢
     exact h)
    have t2 : (i : Int).tmod 2 = 0 := by rw [hi0]; rfl
    have i0 : decide ((0 : Int) < (i : Int)) = false := decide_eq_false (by omega)
    have OWN2 : Hid (w2.ownsRow 0 77 1 (.slice s7 0 c7) 0 (u32V [])) := Lib.hid h2.own
    have D2 := Lib.hid h2
    obtain ⟨d1, d2, d3⟩ := h2.cells
    obtain ⟨g0, g1⟩ := CC.out _ _ _ _ h2
    clear ht h2 T2 c1 c2 c3 D hi0
    go_wp2_with (at_builtin; refine wpList_append_lv _ rfl _ _ 34 rfl 0 77 j0 _ 4 Tryz.underlying34 hj hj0 hj1 hj2 rfl _ 0 _ rfl OWN2.out none 0 _ ([] : List Nat) rfl rfl LV.nil C3.out C4.out (Nat.zero_le _) ?_)
    intro v8 w8 own8 hg8 hw8
    have D8 := Lib.hid (D2.out.push (v' := v8) (xs' := u32V []) own8 hg8 hw8)
    clear own8 hg8 hw8
    go_wp2_with fail
    go_roundw
    case rel => exact ⟨i + 1, 0, [], p2, bad2, rfl, by go_num, ST.out, D8.out⟩
    case measure => simp [intOf]; try omega
   | true =>
    have FQ : Hid (CopP F 0 (if z % 2 = 0 then [] ++ ([] : List Nat).drop 0 else []) p' true) := Lib.hid (CL.out.fin (fun v hv => (by cases hv)) (.inr rfl))
    rw [show (if z % 2 = 0 then [] ++ ([] : List Nat).drop 0 else []) = ([] : List Nat) from by split <;> rfl] at FQ
    obtain ⟨r2, hr2⟩ : ∃ r, z % 2 = r := ⟨_, rfl⟩
    have t2 : (z : Int).tmod 2 = (r2 : Int) := by rw [Int.tmod_eq_emod_of_nonneg (by omega)]; omega
    clear hr2
    by_cases hz2 : r2 = 0
    ·subst hz2
     go_wp2_with (at_builtin; refine wpList_append_lv _ rfl _ _ 34 rfl 0 77 j0 _ 4 Tryz.underlying34 hj hj0 hj1 hj2 rfl _ 0 _ rfl OWN.out none 0 _ ([] : List Nat) rfl rfl LV.nil C3.out C4.out (Nat.zero_le _) ?_)
     intro v8 w8 own8 hg8 hw8
     have D8 := Lib.hid (D.out.push (v' := v8) (xs' := u32V []) own8 hg8 hw8)
     clear own8 hg8 hw8
     go_wp2_with fail
     exact bodyPost_ret (v := v8) (by simp [results, Tryz.results84, go_sem]) rfl ⟨v8, [], p', _, rfl, FQ.out, LS.out _ _ _ _ D8.out⟩
    ·have i2 : ((r2 : Int) == 0) = false := beq_eq_false_iff_ne.2 (by omega)
     go_wp2_with fail
     exact bodyPost_ret (v := .slice s7 0 c7) (by simp [results, Tryz.results84, go_sem]) rfl ⟨.slice s7 0 c7, [], p', _, rfl, FQ.out, LS.out _ _ _ _ D.out⟩
  ·have hiz : i = z := by omega
   have i1 : decide ((i : Int) < (z : Int)) = false := decide_eq_false (by omega)
   have FQ : Hid (CopP F 0 (if z % 2 = 0 then [] ++ ([] : List Nat).drop 0 else []) p' bad) := Lib.hid (CL.out.fin (fun v hv => (by cases hv)) (.inl hiz))
   rw [show (if z % 2 = 0 then [] ++ ([] : List Nat).drop 0 else []) = ([] : List Nat) from by split <;> rfl] at FQ
   obtain ⟨r2, hr2⟩ : ∃ r, z % 2 = r := ⟨_, rfl⟩
   have t2 : (z : Int).tmod 2 = (r2 : Int) := by rw [Int.tmod_eq_emod_of_nonneg (by omega)]; omega
   clear hr2
   by_cases hz2 : r2 = 0
   ·subst hz2
    go_wp2_with (at_builtin; refine wpList_append_lv _ rfl _ _ 34 rfl 0 77 j0 _ 4 Tryz.underlying34 hj hj0 hj1 hj2 rfl _ 0 _ rfl OWN.out none 0 _ ([] : List Nat) rfl rfl LV.nil C3.out C4.out (Nat.zero_le _) ?_)
    intro v8 w8 own8 hg8 hw8
    have D8 := Lib.hid (D.out.push (v' := v8) (xs' := u32V []) own8 hg8 hw8)
    clear own8 hg8 hw8
    go_wp2_with fail
    exact bodyPost_ret (v := v8) (by simp [results, Tryz.results84, go_sem]) rfl ⟨v8, [], p', _, rfl, FQ.out, LS.out _ _ _ _ D8.out⟩
   ·have i2 : ((r2 : Int) == 0) = false := beq_eq_false_iff_ne.2 (by omega)
    go_wp2_with fail
    exact bodyPost_ret (v := .slice s7 0 c7) (by simp [results, Tryz.results84, go_sem]) rfl ⟨.slice s7 0 c7, [], p', _, rfl, FQ.out, LS.out _ _ _ _ D.out⟩
end Go.Proofs.YtflnpcgnenhogaaGreatDoor.ls
namespace Go.Proofs.YtflnpcgnenhogaaGreatDoor.ls
open Go.RowKit Go.Proofs.YtflnpcgnenhogaaGreatDoor.own Go.Proofs.YtflnpcgnenhogaaGreatDoor.bit

/-- what merged answers -/
def MrgP (z : Option (List Nat)) (w : World) (e : Ending) (w' : World) : Prop :=
 (∀ l, z = some l → ∃ v, e = .returned (.tuple #[v, .bool true]) ∧ w'.ownsRow w.heap.size 77 1 v l.length (u32V l) ∧ Below w.heap.size w w') ∧ (z = none → e = .returned (.tuple #[.slice none 0 0, .bool false]) ∧ Below w.heap.size w w')
def slLen : Value → Nat
 | .slice _ n _ => n
 | _ => 0
/-- a round of merged -/
def MrgS (w : World) (z : Option (List Nat)) (n0 : Nat) (va vb vo : Value) (wl : World) : Prop :=
 ∃ (A B l : List Nat) (a b : Option Addr) (ca cb : Nat), va = .slice a A.length ca ∧ vb = .slice b B.length cb ∧ A.length ≤ ca ∧ B.length ≤ cb ∧ LV w a A ∧ LV w b B ∧ A.length + B.length + l.length ≤ n0 ∧ z = (mrg A B).map (l ++ ·) ∧ wl.ownsRow w.heap.size 77 1 vo l.length (u32V l) ∧ Below w.heap.size w wl
theorem LV.tail {w : World} {ad : Addr} {x : Nat} {l : List Nat} {c : Nat} (h : LV w (some ad) (x :: l)) (hc : (x :: l).length ≤ c) : LV w (if c = 1 then some ad else some (ad.add 1)) l := by
 have := h.cut (k := 1) hc (by simp)
 simpa using this
set_option maxRecDepth 100000 in
set_option maxHeartbeats 6400000 in
theorem dmerged_any (w : World) (a b : Option Addr) (A B : List Nat) (ca cb : Nat) (hca : A.length ≤ ca) (hcb : B.length ≤ cb) (hA : LV w a A) (hB : LV w b B) (hn : A.length + B.length ≤ 1000000) :
  Calls Tryz.prog 86 #[.slice a A.length ca, .slice b B.length cb] w (MrgP (mrg A B) w) := by
 obtain ⟨j0, hj, hj0, hj1, hj2⟩ := info_parts Tryz.infoU32
 obtain ⟨z, hz⟩ : ∃ z, mrg A B = z := ⟨_, rfl⟩
 have S0 : Hid (MrgS w z 1000000 (.slice a A.length ca) (.slice b B.length cb) (.slice none 0 0) w) := Lib.hid ⟨A, B, [], a, b, ca, cb, rfl, rfl, hca, hcb, hA, hB, by simp; omega, by rw [← hz]; simp, World.ownsRow_nil _ _ _ _, Below.refl _ _⟩
 rw [hz]
 clear hA hB hn hz hca hcb
 go_enter Tryz.func86, Tryz.ntmps86
 go_wp2_with fail
 go_loopw [0, 1, 6] (fun v0 v1 v6 wl => MrgS w z 1000000 v0 v1 v6 wl) (fun v0 v1 _ _ => slLen v0 + slLen v1)
 case atStart => exact S0.out
 case round =>
  rename World => wl
  obtain ⟨A, B, l, a, b, ca, cb, rfl, rfl, hca, hcb, hA, hB, hn, hz, own, hbel⟩ := hrel
  have OWN := Lib.hid own
  have HBL := Lib.hid hbel
  have HZ := Lib.hid hz
  have HNN := Lib.hid hn
  have C3 : Hid (l.length + 1 ≤ maxLen) := Lib.hid (by simp only [maxLen]; omega)
  have C4 : Hid ((l.length + 1) * 4 ≤ 140737488355328) := Lib.hid (by omega)
  clear own hz
  cases A with
  | nil =>
   have HAV := Lib.hid hA
   cases B with
   | nil =>
    have EZ : Hid (z = some l) := Lib.hid (by rw [HZ.out, mrg_nil]; simp)
    go_wp2_with fail
    go_ret2
    exact ⟨fun l' e => (by rw [EZ.out] at e; cases e; exact ⟨u6, rfl, OWN.out, HBL.out⟩), fun e => (by rw [EZ.out] at e; cases e)⟩
   | cons y B' =>
    obtain ⟨gb, ob, eb, hgb, hqb, hxb⟩ := hB.2 0 (by simp)
    have cb1 : wl.cell? ⟨gb, ob, none⟩ = some (.int .u32 (y : Int)) := (hbel.cell hgb).trans hqb
    subst eb
    have LTb := Lib.hid (hB.tail hcb)
    rw [Addr.add_lit] at LTb
    obtain ⟨mb, hmb⟩ : ∃ m, B'.length = m := ⟨_, rfl⟩
    have HMb := Lib.hid hmb
    rw [List.length_cons, hmb] at hcb
    have jb1 : (0 : Int) < (mb : Int) + 1 := by omega
    have jb2 : ((mb : Int) + 1 == 0) = false := beq_eq_false_iff_ne.2 (by omega)
    have jb3 : (1 : Int) ≤ (mb : Int) + 1 := by omega
    have jb4 : (mb : Int) + 1 ≤ (cb : Int) := by omega
    have jb5 : (((B'.length + 1 : Nat)) : Int) = (mb : Int) + 1 := by omega
    have OA : Hid ((wl.drew.drew.alloc (.cells #[.int .u32 (y : Int)] 77)).ownsRow w.heap.size 77 1 u6 l.length (u32V l)) := Lib.hid ((OWN.out.drew.drew).alloc _)
    have KB : Hid (Below w.heap.size w (wl.drew.drew.alloc (.cells #[.int .u32 (y : Int)] 77))) := Lib.hid ((Below.drew (Below.drew (HBL.out))).alloc HBL.out.size _)
    go_upto_region 3 with fail
    go_big_region
    go_upto_region 6 with fail
    go_big_region

    go_wp2_with (at_builtin; refine wpList_append_at _ rfl _ _ 34 rfl w.heap.size 77 j0 _ 1 4 Tryz.underlying34 hj hj0 hj1 hj2 rfl (by decide) u6 l.length _ rfl OA.out _ 1 1 [.int .u32 (y : Int)] rfl rfl (cell_one_new _ _ _) (fun u hu => by simp at hu; subst hu; rfl) C3.out C4.out KB.out.size (by decide) ?_)
    intro v8 w8 own8 hg8 hw8
    have KB8 := Lib.hid (KB.out.grown hg8 KB.out.size (fun k hk => (OA.out.lt k hk).1))
    have OW8 : Hid (w8.ownsRow w.heap.size 77 1 v8 (l ++ [y]).length (u32V (l ++ [y]))) := Lib.hid (by rw [List.length_append, u32V_append]; exact own8)
    clear own8 hg8 hw8 OA KB
    go_wp2_with fail
    go_roundw
    case rel => exact ⟨[], B', l ++ [y], a, (if cb = 1 then some ⟨gb, ob, none⟩ else some ⟨gb, ob + 1, none⟩), ca, (cb - 1), rfl, by rw [HMb.out], Nat.zero_le _, by rw [HMb.out]; omega, HAV.out, LTb.out, by have h := HNN.out; simp only [List.length_cons, List.length_nil, List.length_append] at h ⊢; omega, by rw [HZ.out, mrg_nil', mrg_nil']; simp, OW8.out, KB8.out⟩
    case measure => simp [slLen]; try omega
  | cons x A' =>
   cases B with
   | nil =>
    have HBV := Lib.hid hB
    obtain ⟨ga, oa, ea, hga, hqa, hxa⟩ := hA.2 0 (by simp)
    have ca1 : wl.cell? ⟨ga, oa, none⟩ = some (.int .u32 (x : Int)) := (hbel.cell hga).trans hqa
    subst ea
    have LTa := Lib.hid (hA.tail hca)
    rw [Addr.add_lit] at LTa
    obtain ⟨ma, hma⟩ : ∃ m, A'.length = m := ⟨_, rfl⟩
    have HMa := Lib.hid hma
    rw [List.length_cons, hma] at hca
    have ja1 : (0 : Int) < (ma : Int) + 1 := by omega
    have ja2 : ((ma : Int) + 1 == 0) = false := beq_eq_false_iff_ne.2 (by omega)
    have ja3 : (1 : Int) ≤ (ma : Int) + 1 := by omega
    have ja4 : (ma : Int) + 1 ≤ (ca : Int) := by omega
    have ja5 : (((A'.length + 1 : Nat)) : Int) = (ma : Int) + 1 := by omega
    have OA : Hid ((wl.drew.alloc (.cells #[.int .u32 (x : Int)] 77)).ownsRow w.heap.size 77 1 u6 l.length (u32V l)) := Lib.hid ((OWN.out.drew).alloc _)
    have KB : Hid (Below w.heap.size w (wl.drew.alloc (.cells #[.int .u32 (x : Int)] 77))) := Lib.hid ((Below.drew (HBL.out)).alloc HBL.out.size _)
    go_upto_region 3 with fail
    go_big_region

    go_wp2_with (at_builtin; refine wpList_append_at _ rfl _ _ 34 rfl w.heap.size 77 j0 _ 1 4 Tryz.underlying34 hj hj0 hj1 hj2 rfl (by decide) u6 l.length _ rfl OA.out _ 1 1 [.int .u32 (x : Int)] rfl rfl (cell_one_new _ _ _) (fun u hu => by simp at hu; subst hu; rfl) C3.out C4.out KB.out.size (by decide) ?_)
    intro v8 w8 own8 hg8 hw8
    have KB8 := Lib.hid (KB.out.grown hg8 KB.out.size (fun k hk => (OA.out.lt k hk).1))
    have OW8 : Hid (w8.ownsRow w.heap.size 77 1 v8 (l ++ [x]).length (u32V (l ++ [x]))) := Lib.hid (by rw [List.length_append, u32V_append]; exact own8)
    clear own8 hg8 hw8 OA KB
    go_wp2_with fail
    go_roundw
    case rel => exact ⟨A', [], l ++ [x], (if ca = 1 then some ⟨ga, oa, none⟩ else some ⟨ga, oa + 1, none⟩), b, (ca - 1), cb, by rw [HMa.out], rfl, by rw [HMa.out]; omega, Nat.zero_le _, LTa.out, HBV.out, by have h := HNN.out; simp only [List.length_cons, List.length_nil, List.length_append] at h ⊢; omega, by rw [HZ.out, mrg_nil, mrg_nil]; simp, OW8.out, KB8.out⟩
    case measure => simp [slLen]; try omega
   | cons y B' =>
    obtain ⟨ga, oa, ea, hga, hqa, hxa⟩ := hA.2 0 (by simp)
    have ca1 : wl.cell? ⟨ga, oa, none⟩ = some (.int .u32 (x : Int)) := (hbel.cell hga).trans hqa
    subst ea
    have LTa := Lib.hid (hA.tail hca)
    rw [Addr.add_lit] at LTa
    obtain ⟨ma, hma⟩ : ∃ m, A'.length = m := ⟨_, rfl⟩
    have HMa := Lib.hid hma
    rw [List.length_cons, hma] at hca
    have ja1 : (0 : Int) < (ma : Int) + 1 := by omega
    have ja2 : ((ma : Int) + 1 == 0) = false := beq_eq_false_iff_ne.2 (by omega)
    have ja3 : (1 : Int) ≤ (ma : Int) + 1 := by omega
    have ja4 : (ma : Int) + 1 ≤ (ca : Int) := by omega
    have ja5 : (((A'.length + 1 : Nat)) : Int) = (ma : Int) + 1 := by omega
    obtain ⟨gb, ob, eb, hgb, hqb, hxb⟩ := hB.2 0 (by simp)
    have cb1 : wl.cell? ⟨gb, ob, none⟩ = some (.int .u32 (y : Int)) := (hbel.cell hgb).trans hqb
    subst eb
    have LTb := Lib.hid (hB.tail hcb)
    rw [Addr.add_lit] at LTb
    obtain ⟨mb, hmb⟩ : ∃ m, B'.length = m := ⟨_, rfl⟩
    have HMb := Lib.hid hmb
    rw [List.length_cons, hmb] at hcb
    have jb1 : (0 : Int) < (mb : Int) + 1 := by omega
    have jb2 : ((mb : Int) + 1 == 0) = false := beq_eq_false_iff_ne.2 (by omega)
    have jb3 : (1 : Int) ≤ (mb : Int) + 1 := by omega
    have jb4 : (mb : Int) + 1 ≤ (cb : Int) := by omega
    have jb5 : (((B'.length + 1 : Nat)) : Int) = (mb : Int) + 1 := by omega
    have HAV := Lib.hid hA
    have HBV := Lib.hid hB
    rcases Nat.lt_trichotomy x y with hxy | hxy | hxy
    ·have i1 : decide ((x : Int) < (y : Int)) = true := decide_eq_true (by omega)
     have i1n : decide (x < y) = true := decide_eq_true hxy
     have OA : Hid ((wl.drew.alloc (.cells #[.int .u32 (x : Int)] 77)).ownsRow w.heap.size 77 1 u6 l.length (u32V l)) := Lib.hid ((OWN.out.drew).alloc _)
     have KB : Hid (Below w.heap.size w (wl.drew.alloc (.cells #[.int .u32 (x : Int)] 77))) := Lib.hid ((Below.drew (HBL.out)).alloc HBL.out.size _)
     go_upto_region 3 with fail
     go_big_region

     go_wp2_with (at_builtin; refine wpList_append_at _ rfl _ _ 34 rfl w.heap.size 77 j0 _ 1 4 Tryz.underlying34 hj hj0 hj1 hj2 rfl (by decide) u6 l.length _ rfl OA.out _ 1 1 [.int .u32 (x : Int)] rfl rfl (cell_one_new _ _ _) (fun u hu => by simp at hu; subst hu; rfl) C3.out C4.out KB.out.size (by decide) ?_)
     intro v8 w8 own8 hg8 hw8
     have KB8 := Lib.hid (KB.out.grown hg8 KB.out.size (fun k hk => (OA.out.lt k hk).1))
     have OW8 : Hid (w8.ownsRow w.heap.size 77 1 v8 (l ++ [x]).length (u32V (l ++ [x]))) := Lib.hid (by rw [List.length_append, u32V_append]; exact own8)
     clear own8 hg8 hw8 OA KB
     go_wp2_with fail
     go_roundw
     case rel => exact ⟨A', (y :: B'), l ++ [x], (if ca = 1 then some ⟨ga, oa, none⟩ else some ⟨ga, oa + 1, none⟩), (some ⟨gb, ob, none⟩), (ca - 1), cb, by rw [HMa.out], by rw [List.length_cons, HMb.out], by rw [HMa.out]; omega, by rw [List.length_cons, HMb.out]; exact hcb, LTa.out, HBV.out, by have h := HNN.out; simp only [List.length_cons, List.length_nil, List.length_append] at h ⊢; omega, by rw [HZ.out, mrg_lt hxy, Option.map_map]; exact congrArg (fun f => Option.map f _) (funext fun t => by simp), OW8.out, KB8.out⟩
     case measure => simp [slLen]; try omega
    ·subst hxy
     have EZ : Hid (z = none) := Lib.hid (by rw [HZ.out, mrg_eq]; rfl)
     go_upto_region 3 with fail
     go_big_region
     go_upto_region 6 with fail
     go_big_region
     go_wp2_with fail
     go_ret2
     exact ⟨fun l' e => (by rw [EZ.out] at e; cases e), fun _ => ⟨rfl, Below.drew (Below.drew HBL.out)⟩⟩
    ·have i1 : decide ((x : Int) < (y : Int)) = false := decide_eq_false (by omega)
     have i1n : decide (x < y) = false := decide_eq_false (by omega)
     have i2 : ((x : Int) == (y : Int)) = false := beq_eq_false_iff_ne.2 (by omega)
     have OA : Hid ((wl.drew.drew.alloc (.cells #[.int .u32 (y : Int)] 77)).ownsRow w.heap.size 77 1 u6 l.length (u32V l)) := Lib.hid ((OWN.out.drew.drew).alloc _)
     have KB : Hid (Below w.heap.size w (wl.drew.drew.alloc (.cells #[.int .u32 (y : Int)] 77))) := Lib.hid ((Below.drew (Below.drew (HBL.out))).alloc HBL.out.size _)
     go_upto_region 3 with fail
     go_big_region
     go_upto_region 6 with fail
     go_big_region

     go_wp2_with (at_builtin; refine wpList_append_at _ rfl _ _ 34 rfl w.heap.size 77 j0 _ 1 4 Tryz.underlying34 hj hj0 hj1 hj2 rfl (by decide) u6 l.length _ rfl OA.out _ 1 1 [.int .u32 (y : Int)] rfl rfl (cell_one_new _ _ _) (fun u hu => by simp at hu; subst hu; rfl) C3.out C4.out KB.out.size (by decide) ?_)
     intro v8 w8 own8 hg8 hw8
     have KB8 := Lib.hid (KB.out.grown hg8 KB.out.size (fun k hk => (OA.out.lt k hk).1))
     have OW8 : Hid (w8.ownsRow w.heap.size 77 1 v8 (l ++ [y]).length (u32V (l ++ [y]))) := Lib.hid (by rw [List.length_append, u32V_append]; exact own8)
     clear own8 hg8 hw8 OA KB
     go_wp2_with fail
     go_roundw
     case rel => exact ⟨(x :: A'), B', l ++ [y], (some ⟨ga, oa, none⟩), (if cb = 1 then some ⟨gb, ob, none⟩ else some ⟨gb, ob + 1, none⟩), ca, (cb - 1), by rw [List.length_cons, HMa.out], by rw [HMb.out], by rw [List.length_cons, HMa.out]; exact hca, by rw [HMb.out]; omega, HAV.out, LTb.out, by have h := HNN.out; simp only [List.length_cons, List.length_nil, List.length_append] at h ⊢; omega, by rw [HZ.out, mrg_gt hxy, Option.map_map]; exact congrArg (fun f => Option.map f _) (funext fun t => by simp), OW8.out, KB8.out⟩
     case measure => simp [slLen]; try omega
end Go.Proofs.YtflnpcgnenhogaaGreatDoor.ls
namespace Go.Proofs.YtflnpcgnenhogaaGreatDoor.ls
open Go.RowKit Go.Proofs.YtflnpcgnenhogaaGreatDoor.own Go.Proofs.YtflnpcgnenhogaaGreatDoor.bit

theorem dcopies_any {w W : World} {wr : Option (Nat × Bits)} {rd : Option (Nat × ByteArray × Nat)} {rb : Nat} {aB : Option Addr} {dB : Nat} {B : Bits} {tb p : Nat} {K : List (Nat × Obj)} (h : DTk w wr rd rb aB dB B tb p false K W)
  (ar : Option Addr) (ref : List Nat) (cap : Nat) (hcap : ref.length ≤ cap) (hlen : ref.length ≤ 65536) (hb : ∀ v ∈ ref, v < 65536) (hA : Seen w K ar ref) :
  Calls Tryz.prog 84 #[.pointer (some ⟨tb, 0, none⟩), .slice ar ref.length cap] W (ListD (CopP (copies B ref p) ref.length) w wr rd rb aB dB B tb K) := by
 cases ar with
 | some ad => exact dcopies_some h ad ref cap hcap hlen hb hA
 | none =>
  have h0 : ref = [] := by
   refine Classical.byContradiction fun hne => ?_
   have hp : 0 < ref.length := List.length_pos_iff.2 hne
   obtain ⟨g, o, e, _⟩ := (hA W h.below (fun q hq => h.has hq)).2 0 hp
   cases e
  subst h0
  exact dcopies_none h cap
theorem lng0_yes {B : Bits} {x deg itv a : Nat} {c : List Nat} (h : c.length < deg) (hi : 0 < itv) : lng0 B x deg itv c a = longs B x (deg - c.length) itv a := if_pos ⟨h, hi⟩
theorem lng0_no {B : Bits} {x deg itv a : Nat} {c : List Nat} (h : ¬ (c.length < deg ∧ 0 < itv)) : lng0 B x deg itv c a = some ([], a) := if_neg h
theorem DTR.bare {w W : World} {wr : Option (Nat × Bits)} {rd : Option (Nat × ByteArray × Nat)} {rb : Nat} {aB : Option Addr} {dB : Nat} {B : Bits} {tb p : Nat} {bad : Bool} {rs : List Rw} {K : List (Nat × Obj)} (h : DTR w wr rd rb aB dB B tb p bad rs K W) : DTR w wr rd rb aB dB B tb p bad [] K W := ⟨h.1.fs, h.2⟩
theorem DTR.drewN {w W : World} {wr : Option (Nat × Bits)} {rd : Option (Nat × ByteArray × Nat)} {rb : Nat} {aB : Option Addr} {dB : Nat} {B : Bits} {tb p : Nat} {bad : Bool} {rs : List Rw} {K : List (Nat × Obj)} (h : DTR w wr rd rb aB dB B tb p bad rs K W) (n : Nat) : DTR w wr rd rb aB dB B tb p bad rs K (W.drewN n) := h.next ⟨rfl, rfl, rfl, Nat.le_refl _, fun _ _ => rfl⟩
theorem DTR.add {w W : World} {wr : Option (Nat × Bits)} {rd : Option (Nat × ByteArray × Nat)} {rb : Nat} {aB : Option Addr} {dB : Nat} {B : Bits} {tb p : Nat} {bad : Bool} {K : List (Nat × Obj)} (h : DTR w wr rd rb aB dB B tb p bad [] K W) (row : Array Value) (T : TypeId) : DTR w wr rd rb aB dB B tb p bad [] ((W.heap.size, .cells row T (0, 0)) :: K) (W.alloc (.cells row T)) := (h.lone.add row T).rows
/-- behind the copies -/
def CpS (w : World) (wr : Option (Nat × Bits)) (rd : Option (Nat × ByteArray × Nat)) (rb : Nat) (aB : Option Addr) (dB : Nat) (B : Bits) (tb : Nat) (K : List (Nat × Obj)) (F : Option (List Nat × Nat)) (m : Nat) (v13 : Value) (wc : World) : Prop :=
 ∃ (l : List Nat) (p' : Nat) (bad : Bool), CopP F m l p' bad ∧ DTR w wr rd rb aB dB B tb p' bad [⟨77, v13, u32V l⟩] K wc
/-- behind the rows -/
def MgS (w : World) (wr : Option (Nat × Bits)) (rd : Option (Nat × ByteArray × Nat)) (rb : Nat) (aB : Option Addr) (dB : Nat) (B : Bits) (tb : Nat) (K : List (Nat × Obj)) (Z : Option (List Nat × Nat)) (x zet deg : Nat) (v13 v14 : Value) (wc : World) : Prop :=
 ∃ (o : List Nat) (m p' : Nat) (ks : List (Nat × Obj)) (s : Option Addr) (d : Nat), v13 = .slice s o.length d ∧ v14 = .int .i64 (m : Int) ∧ o.length ≤ d ∧ o.length + m = deg ∧ (∀ v ∈ o, v < 65536) ∧ Stands ks s o ∧ Z = ((rsd B x zet m none p').bind fun q => (mrg o q.1).map fun s => (s, q.2)) ∧ DTR w wr rd rb aB dB B tb p' false [] (ks ++ K) wc
/-- a round of residuals -/
def RsS (w : World) (wr : Option (Nat × Bits)) (rd : Option (Nat × ByteArray × Nat)) (rb : Nat) (aB : Option Addr) (dB : Nat) (B : Bits) (tb : Nat) (K : List (Nat × Obj)) (F : Option (List Nat × Nat)) (x zet m : Nat) (vo ve vi : Value) (wl : World) : Prop :=
 ∃ (i : Nat) (en : Option Nat) (l : List Nat) (p' : Nat), ve = .int .i64 (endD en) ∧ vi = .int .i64 (i : Int) ∧ RsdL F B x zet m i en l p' ∧ DTR w wr rd rb aB dB B tb p' false [⟨77, vo, u32V l⟩] K wl
set_option maxRecDepth 100000 in
set_option maxHeartbeats 6400000 in
theorem ddec0_any {w W : World} {wr : Option (Nat × Bits)} {rd : Option (Nat × ByteArray × Nat)} {rb : Nat} {aB : Option Addr} {dB : Nat} {B : Bits} {p : Nat} {K : List (Nat × Obj)} (h : DRd w wr rd rb aB dB B p K W)
  (x deg r : Nat) (pr : Pr) (hx : x < 65536) (hd : deg ≤ 65536) (hr : r ≤ 16) (hp : pr.ok) (ar : Option Addr) (ref : List Nat) (cap : Nat) (hcap : ref.length ≤ cap) (hris : Ris ref) (hA : Seen w K ar ref) :
  Calls Tryz.prog 54 #[.pointer (some ⟨rb, 0, none⟩), .int .i64 (x : Int), .agg #[.int .i64 (deg : Int), .int .i64 (r : Int)], .slice ar ref.length cap, parV (pr.win : Int) (pr.itv : Int) (pr.zet : Int)] W (DocP (dOut (pars B x deg ref r pr p)) deg w wr rd rb aB dB B K) := by
 obtain ⟨j0, hj, hj0, hj1, hj2⟩ := info_parts Tryz.infoU32
 have HB6 := Lib.hid h.2.2.1
 have hlen := hris.len
 obtain ⟨win, itv, zet⟩ := pr
 obtain ⟨hp1, hp2, hp3⟩ := hp
 dsimp only at hp1 hp2 hp3 ⊢
 have h9 := DTk.start ((h.add #[.int .i64 (deg : Int), .int .i64 (r : Int)] 33).add #[.int .i64 (win : Int), .int .i64 (itv : Int), .int .i64 (zet : Int)] 36)
 have z1 : (W.alloc (.cells #[.int .i64 (deg : Int), .int .i64 (r : Int)] 33)).heap.size = W.heap.size + 1 := by simp
 have z2 : ((W.alloc (.cells #[.int .i64 (deg : Int), .int .i64 (r : Int)] 33)).alloc (.cells #[.int .i64 (win : Int), .int .i64 (itv : Int), .int .i64 (zet : Int)] 36)).heap.size = W.heap.size + 2 := by simp
 rw [z1, z2] at h9
 clear z1 z2
 obtain ⟨hb, hhb⟩ : ∃ z, W.heap.size = z := ⟨_, rfl⟩
 rw [hhb] at h9
 obtain ⟨K2, hK2⟩ : ∃ K', (hb + 1, Obj.cells #[.int .i64 (win : Int), .int .i64 (itv : Int), .int .i64 (zet : Int)] 36 (0, 0)) :: (hb, Obj.cells #[.int .i64 (deg : Int), .int .i64 (r : Int)] 33 (0, 0)) :: K = K' := ⟨_, rfl⟩
 rw [hK2] at h9
 have H0 := Lib.hid h9
 have HK : Hid (∀ q ∈ K, q ∈ K2) := Lib.hid (fun q hq => by rw [← hK2]; exact List.mem_cons_of_mem _ (List.mem_cons_of_mem _ hq))
 have CC : Hid (∀ W' tb p' bad rs K', (∀ q ∈ K2, q ∈ K') → DTR w wr rd rb aB dB B tb p' bad rs K' W' → W'.cell? ⟨hb, 0, none⟩ = some (.int .i64 (deg : Int)) ∧ W'.cell? ⟨hb, 1, none⟩ = some (.int .i64 (r : Int)) ∧ W'.cell? ⟨hb + 1, 0, none⟩ = some (.int .i64 (win : Int)) ∧ W'.cell? ⟨hb + 1, 1, none⟩ = some (.int .i64 (itv : Int)) ∧ W'.cell? ⟨hb + 1, 2, none⟩ = some (.int .i64 (zet : Int))) := Lib.hid (fun W' tb p' bad rs K' hk h => by
  have r : W'.heap[hb]? = some (.cells #[.int .i64 (deg : Int), .int .i64 (r : Int)] 33 (0, 0)) := h.has (q := (hb, _)) (hk _ (by rw [← hK2]; exact List.mem_cons_of_mem _ (List.mem_cons_self ..)))
  have r2 : W'.heap[hb + 1]? = some (.cells #[.int .i64 (win : Int), .int .i64 (itv : Int), .int .i64 (zet : Int)] 36 (0, 0)) := h.has (q := (hb + 1, _)) (hk _ (by rw [← hK2]; exact List.mem_cons_self ..))
  exact ⟨by rw [cell_of_row _ _ _ _ _ _ r]; rfl, by rw [cell_of_row _ _ _ _ _ _ r]; rfl, by rw [cell_of_row _ _ _ _ _ _ r2]; rfl, by rw [cell_of_row _ _ _ _ _ _ r2]; rfl, by rw [cell_of_row _ _ _ _ _ _ r2]; rfl⟩)
 have OUT : Hid (∀ W' tb p' bad rs K', (∀ q ∈ K2, q ∈ K') → DTR w wr rd rb aB dB B tb p' bad rs K' W' → DRR w wr rd rb aB dB B p' rs K W') := Lib.hid (fun W' tb p' bad rs K' hk h => h.drop.less (fun q hq => hk _ (HK.out _ hq)) HB6.out)
 obtain ⟨Z, hZ⟩ : ∃ Z, dOut (pars B x deg ref r ⟨win, itv, zet⟩ p) = Z := ⟨_, rfl⟩
 have NOX : Hid (Z = none → ∀ W' tb p' bad K', (∀ q ∈ K2, q ∈ K') → DTR w wr rd rb aB dB B tb p' bad [] K' W' → DocP Z deg w wr rd rb aB dB B K (.returned (.tuple #[.slice none 0 0, .bool false])) W') := Lib.hid (fun hz W' tb p' bad K' hk h => ⟨_, [], p', false, rfl, fun h => (by cases h), fun _ => hz, Nat.zero_le _, fun v hv => (by cases hv), OUT.out _ _ _ _ _ _ hk (h.lift (T := 77))⟩)
 have ZE := Lib.hid (fun c l p1 p2 (h1 : cop0 B ref r p = some (c, p1)) (h2 : ¬ deg < c.length) (h3 : lng0 B x deg itv c p1 = some (l, p2)) => (dOut_eq (p := ⟨win, itv, zet⟩) hris.1 h1 h2 h3).symm.trans hZ)
 have Z1 := Lib.hid (fun (h1 : cop0 B ref r p = none) => hZ.symm.trans (dOut_none1 (x := x) (deg := deg) (p := ⟨win, itv, zet⟩) h1))
 have Z2 := Lib.hid (fun c p1 (h1 : cop0 B ref r p = some (c, p1)) (h2 : deg < c.length) => hZ.symm.trans (dOut_none2 (x := x) (p := ⟨win, itv, zet⟩) h1 h2))
 have Z3 := Lib.hid (fun c p1 (h1 : cop0 B ref r p = some (c, p1)) (h2 : ¬ deg < c.length) (h3 : lng0 B x deg itv c p1 = none) => hZ.symm.trans (dOut_none3 (p := ⟨win, itv, zet⟩) h1 h2 h3))
 have CP := Lib.hid (fun W' tb p' (h : DTk w wr rd rb aB dB B tb p' false K2 W') => dcopies_any h ar ref cap hcap hlen hris.2 (hA.more HK.out))
 obtain ⟨n, hn⟩ : ∃ z, ref.length = z := ⟨_, rfl⟩
 rw [hn] at hlen hcap CP ⊢
 rw [hZ]
 unfold parV
 obtain ⟨C0, hC0⟩ : ∃ C, cop0 B ref r p = C := ⟨_, rfl⟩
 rw [hC0] at ZE Z1 Z2 Z3
 have HC0 : Hid (C0 = if 0 < r then copies B ref p else some ([], p)) := Lib.hid hC0.symm
 clear h h9 hZ hK2 hA hris hn hC0
 go_enter Tryz.func54, Tryz.ntmps54
 go_upto_region 3 with fail
 obtain ⟨tb, htb⟩ : ∃ t, hb + 1 + 1 = t := ⟨_, rfl⟩
 rw [show hb + 2 = tb from htb] at H0
 rw [htb]
 generalize World.alloc (World.alloc (World.alloc W _) _) _ = W0 at H0 ⊢
 obtain ⟨c0, c1, c2, c3, c4⟩ := CC.out _ _ _ _ _ _ (fun q hq => hq) H0.out.rows
 clear htb
 go_upto_if 30 with fail
 go_cut [13] from 30 to 34 (fun v13 wc => CpS w wr rd rb aB dB B tb K2 C0 n v13 wc)
 case first =>
  by_cases hr0 : 0 < r
  ·have i1 : decide ((0 : Int) < (r : Int)) = true := decide_eq_true (by omega)
   have E := Lib.hid (HC0.out.trans (if_pos hr0))
   have T1 := Lib.hid (CP.out _ _ _ H0.out)
   go_wp2_with fail
   with_reducible refine T1.out.mono ?_
   rintro e w1 ⟨v, l, p1, bad, rfl, hc, h1⟩
   have R : Hid (CpS w wr rd rb aB dB B tb K2 C0 n v w1) := Lib.hid ⟨l, p1, bad, by rw [E.out]; exact hc, h1⟩
   clear hc h1
   go_wp2_with fail
   go_meet
   case rel => exact R.out
  ·have i1 : decide ((0 : Int) < (r : Int)) = false := decide_eq_false (by omega)
   have E := Lib.hid (HC0.out.trans (if_neg hr0))
   go_wp2_with fail
   go_meet
   case rel => exact ⟨[], p, false, ⟨Nat.zero_le _, fun v hv => (by cases hv), fun h => (by cases h), fun _ => E.out⟩, H0.out.rows.lift⟩
 case rest =>
  rename World => wc
  obtain ⟨c, p1, bad1, hc, h1⟩ := hcut
  obtain ⟨k1, k2, k3, k4⟩ := hc
  obtain ⟨ka, sc, dc, rfl, hcd, hst, h2⟩ := h1.still (by omega) (fun v hv => Nat.lt_trans (k2 v hv) (by decide))
  have ST := Lib.hid hst
  have CB := Lib.hid k2
  have D2 := Lib.hid h2
  have BN := Lib.hid k3
  have BS := Lib.hid k4
  clear h1 hst k2 k3 k4 c0 c1 c2 c3 c4 H0
  obtain ⟨c0, c1, c2, c3, c4⟩ := CC.out _ _ _ _ _ _ (fun q hq => List.mem_append_right _ hq) h2
  obtain ⟨t0, t1, -⟩ := h2.cells
  obtain ⟨lc, hlc⟩ : ∃ z, c.length = z := ⟨_, rfl⟩
  have HLC := Lib.hid hlc
  rw [hlc] at k1 hcd ⊢
  have q1 : IntKind.i64.wrap ((deg : Int) - (lc : Int)) = (deg : Int) - (lc : Int) := IntWalk.i64_in _ (by omega)
  clear h2 hlc
  cases bad1 with
  | true =>
   have FN := Lib.hid (NOX.out (Z1.out (BN.out rfl)) _ _ _ _ _ (fun q hq => List.mem_append_right _ hq) D2.out)
   go_wp2_with fail
   go_ret2
   exact FN.out
  | false =>
   have HC := Lib.hid (BS.out rfl)
   by_cases hlt : deg < lc
   ·have i1 : decide ((deg : Int) - (lc : Int) < 0) = true := decide_eq_true (by omega)
    have FN := Lib.hid (NOX.out (Z2.out _ _ HC.out (by rw [HLC.out]; exact hlt)) _ _ _ _ _ (fun q hq => List.mem_append_right _ hq) D2.out)
    go_wp2_with fail
    go_ret2
    exact FN.out
   ·have ND : Hid (¬ deg < c.length) := Lib.hid (by rw [HLC.out]; exact hlt)
    obtain ⟨m, hm⟩ : ∃ m, deg = lc + m := ⟨deg - lc, by omega⟩
    have q2 : (deg : Int) - (lc : Int) = (m : Int) := by omega
    have i1 : decide ((m : Int) < 0) = false := decide_eq_false (by omega)
    have HM : Hid (deg - c.length = m ∧ deg = lc + m) := Lib.hid ⟨by rw [HLC.out]; omega, hm⟩
    have hm9 : m ≤ 65536 := by omega
    rw [q2] at q1
    clear hm hlt
    go_upto_region 8 with fail
    go_cut [53] from 47 to 54 (fun v53 wd => v53 = .bool (decide (0 < m ∧ 0 < itv)) ∧ wd = wc)
    case first =>
     by_cases hm0 : 0 < m
     ·have j1 : decide ((0 : Int) < (m : Int)) = true := decide_eq_true (by omega)
      by_cases hi0 : 0 < itv
      ·have j2 : decide ((0 : Int) < (itv : Int)) = true := decide_eq_true (by omega)
       have R : Hid (decide (0 < m ∧ 0 < itv) = true) := Lib.hid (decide_eq_true ⟨hm0, hi0⟩)
       go_wp2_with fail
       go_meet
       case rel => exact ⟨by rw [R.out], rfl⟩
      ·have j2 : decide ((0 : Int) < (itv : Int)) = false := decide_eq_false (by omega)
       have R : Hid (decide (0 < m ∧ 0 < itv) = false) := Lib.hid (decide_eq_false (fun h => hi0 h.2))
       go_wp2_with fail
       go_meet
       case rel => exact ⟨by rw [R.out], rfl⟩
     ·have j1 : decide ((0 : Int) < (m : Int)) = false := decide_eq_false (by omega)
      have R : Hid (decide (0 < m ∧ 0 < itv) = false) := Lib.hid (decide_eq_false (fun h => hm0 h.1))
      go_wp2_with fail
      go_meet
      case rel => exact ⟨by rw [R.out], rfl⟩
    case rest =>
    obtain ⟨rfl, rfl⟩ := hcut
    obtain ⟨bb, hbb⟩ : ∃ b, decide (0 < m ∧ 0 < itv) = b := ⟨_, rfl⟩
    have HBB := Lib.hid hbb
    rw [hbb]
    clear hbb
    go_upto_if 53 with fail
    go_cut [13, 14, 15, 16, 17] from 54 to 78 (fun v13 v14 _ _ _ wd => MgS w wr rd rb aB dB B tb K2 Z x zet deg v13 v14 wd)
    case first =>
     cases bb with
     | true =>
       obtain ⟨hm0, hi0⟩ : 0 < m ∧ 0 < itv := of_decide_eq_true HBB.out
       have LG : Hid (lng0 B x deg itv c p1 = longs B x m itv p1) := Lib.hid (by
        rw [← HM.out.1]
        exact lng0_yes (by rw [HLC.out]; have := HM.out.2; omega) hi0)
       have T1 := Lib.hid (drows_any D2.out.lone x m win itv zet hx hm9 hi0 (by omega))
       go_wp2_with fail
       with_reducible refine T1.out.mono ?_
       rintro e w1 ⟨v, l, p2, bad2, rfl, hl, h3⟩
       obtain ⟨k1, k2, k3, k4⟩ := hl
       obtain ⟨kb, sl, dl, rfl, hld, hsl, h4⟩ := h3.still (by omega) (fun v hv => Nat.lt_trans (k2 v hv) (by decide))
       have D4 := Lib.hid h4
       have LN := Lib.hid k3
       have LS := Lib.hid k4
       have LVB := Lib.hid k2
       have LVc := Lib.hid (ST.out w1 (fun q hq => h4.has (List.mem_append_right _ (List.mem_append_left _ hq))))
       have LVl := Lib.hid (hsl w1 (fun q hq => h4.has (List.mem_append_left _ hq)))
       have MG := Lib.hid (dmerged_any w1 sc sl c l dc dl (by rw [HLC.out]; exact hcd) hld LVc.out LVl.out (by rw [HLC.out]; omega))
       obtain ⟨t0, t1, -⟩ := h4.cells
       obtain ⟨ll, hll⟩ : ∃ z, l.length = z := ⟨_, rfl⟩
       have HLL := Lib.hid hll
       rw [HLC.out] at MG
       rw [hll] at MG k1 ⊢
       have q3 : IntKind.i64.wrap ((m : Int) - (ll : Int)) = ((m - ll : Nat) : Int) := by rw [IntWalk.i64_in _ (by omega)]; omega
       clear h3 hsl h4 k2 k3 k4 T1 hll hld D2
       go_wp2_with fail
       with_reducible refine MG.out.mono ?_
       rintro e w2 hM
       cases hmg : mrg c l with
       | none =>
        obtain ⟨rfl, k9⟩ := hM.2 hmg
        have D5 := Lib.hid (D4.out.next k9)
        obtain ⟨t0, t1, -⟩ := D5.out.cells
        have ZN : Hid (Z = none) := Lib.hid (by
         cases bad2 with
         | true => exact Z3.out _ _ HC.out ND.out (LG.out.trans (LN.out rfl))
         | false =>
          rw [← ZE.out _ _ _ _ HC.out ND.out (LG.out.trans (LS.out rfl)), hmg]
          cases rsd B x zet (deg - c.length - l.length) none p2 <;> rfl)
        have FN := Lib.hid (NOX.out ZN.out _ _ _ _ _ (fun q hq => List.mem_append_right _ (List.mem_append_right _ hq)) D5.out)
        clear hmg k9 hM MG
        cases bad2
        ·go_wp2_with fail
         go_ret2
         exact FN.out
        ·go_wp2_with fail
         go_ret2
         exact FN.out
       | some o =>
        obtain ⟨v, rfl, own, k9⟩ := hM.1 o hmg
        have hD5 := D4.out.fresh k9 own
        have pm := mrg_mem _ _ _ _ (Nat.le_refl _) hmg
        have hob : ∀ v ∈ o, v < 65536 := fun v hv => by
         rcases List.mem_append.1 (pm.mem_iff.1 hv) with h | h
         ·exact CB.out v h
         ·exact LVB.out v h
        have hol : o.length = lc + ll := by rw [pm.length_eq, List.length_append, HLC.out, HLL.out]
        obtain ⟨ko, so, dd, rfl, hod, hso, h6⟩ := hD5.still (by omega) (fun v hv => Nat.lt_trans (hob v hv) (by decide))
        have D6 := Lib.hid h6
        obtain ⟨t0, t1, -⟩ := h6.cells
        cases bad2 with
        | true =>
         have FN := Lib.hid (NOX.out (Z3.out _ _ HC.out ND.out (LG.out.trans (LN.out rfl))) _ _ _ _ _ (fun q hq => List.mem_append_right _ (List.mem_append_right _ (List.mem_append_right _ hq))) D6.out)
         clear hmg hM MG own k9 hD5 h6 pm
         go_wp2_with fail
         go_ret2
         exact FN.out
        | false =>
         have R : Hid (MgS w wr rd rb aB dB B tb K2 Z x zet deg (.slice so (lc + ll) dd) (.int .i64 ((m - ll : Nat) : Int)) w2) := Lib.hid ⟨o, m - ll, p2, ko ++ (kb ++ ka), so, dd, by rw [hol], rfl, hod, by have := HM.out.2; omega, hob, hso.more (fun q hq => List.mem_append_left _ hq), by
          rw [← ZE.out _ _ _ _ HC.out ND.out (LG.out.trans (LS.out rfl)), hmg, HM.out.1, HLL.out]
          rfl, by
          rw [List.append_assoc, List.append_assoc]
          exact h6⟩
         clear hmg hM MG own k9 hD5 h6 pm
         go_wp2_with fail
         go_meet
         case rel => exact R.out
     | false =>
       have LG : Hid (lng0 B x deg itv c p1 = some ([], p1)) := Lib.hid (lng0_no (fun h => by have h1 := of_decide_eq_false HBB.out; have h2 := HM.out.1; exact h1 ⟨by omega, h.2⟩))
       have ZZ : Hid (Z = ((rsd B x zet m none p1).bind fun q => (mrg c q.1).map fun s => (s, q.2))) := Lib.hid (by
        rw [← ZE.out _ _ _ _ HC.out ND.out LG.out, HM.out.1, mrg_nil]
        rfl)
       go_wp2_with fail
       go_meet
       case rel => exact ⟨c, m, p1, ka, sc, dc, by rw [HLC.out], rfl, by rw [HLC.out]; exact hcd, by rw [HLC.out]; have := HM.out.2; omega, CB.out, ST.out, ZZ.out, D2.out⟩
    case rest =>
     rename World => wd
     obtain ⟨o, m, p2, ks, so, dd, rfl, rfl, hod, hom, hob, hso, hZ, hD⟩ := hcut
     have HO := Lib.hid hob
     have HSO := Lib.hid hso
     have HZZ := Lib.hid hZ
     have h7 := hD.add #[.int .u8 3, .int .u64 (zet : Int)] 104
     obtain ⟨cb, hcb⟩ : ∃ z, wd.heap.size = z := ⟨_, rfl⟩
     rw [hcb] at h7
     obtain ⟨K4, hK4⟩ : ∃ K', (cb, Obj.cells #[.int .u8 3, .int .u64 (zet : Int)] 104 (0, 0)) :: (ks ++ K2) = K' := ⟨_, rfl⟩
     rw [hK4] at h7
     have D7 := Lib.hid h7
     have HK4 : Hid (∀ q ∈ K2, q ∈ K4) := Lib.hid (fun q hq => by rw [← hK4]; exact List.mem_cons_of_mem _ (List.mem_append_right _ hq))
     have HKs : Hid (∀ q ∈ ks, q ∈ K4) := Lib.hid (fun q hq => by rw [← hK4]; exact List.mem_cons_of_mem _ (List.mem_append_left _ hq))
     have CD : Hid (∀ W' p' bad rs, DTR w wr rd rb aB dB B tb p' bad rs K4 W' → W'.cell? ⟨cb, 0, none⟩ = some (.int .u8 3) ∧ W'.cell? ⟨cb, 1, none⟩ = some (.int .u64 (zet : Int))) := Lib.hid (fun W' p' bad rs h => by
      have r : W'.heap[cb]? = some (.cells #[.int .u8 3, .int .u64 (zet : Int)] 104 (0, 0)) := h.has (q := (cb, _)) (by rw [← hK4]; exact List.mem_cons_self ..)
      exact ⟨by rw [cell_of_row _ _ _ _ _ _ r]; rfl, by rw [cell_of_row _ _ _ _ _ _ r]; rfl⟩)
     have TT : Hid (∀ W' p' bad rs (_ : DTR w wr rd rb aB dB B tb p' bad rs K4 W'), Calls Tryz.prog 87 #[.pointer (some ⟨tb, 0, none⟩), cdV (.zet zet), .int .i64 262144] W' (DTakeR w wr rd rb aB dB B tb rs K4 (tk B (.zet zet) 262144 p') 262144 bad)) := Lib.hid (fun W' p' bad rs h => h.take (.zet zet) hp3 262144 (by decide))
     unfold cdV at TT
     obtain ⟨c0, c1, c2, c3, c4⟩ := CC.out _ _ _ _ _ _ (fun q hq => List.mem_append_right _ hq) hD
     obtain ⟨F, hF⟩ : ∃ F, rsd B x zet m none p2 = F := ⟨_, rfl⟩
     have S0 : Hid (RsdL F B x zet m 0 none [] p2) := Lib.hid (hF ▸ RsdL.start B x zet m p2)
     have ZF : Hid (Z = (F.bind fun q => (mrg o q.1).map fun s => (s, q.2))) := Lib.hid (by rw [← hF]; exact HZZ.out)
     obtain ⟨lo, hlo⟩ : ∃ z, o.length = z := ⟨_, rfl⟩
     have HLO := Lib.hid hlo
     have HOM := Lib.hid hom
     rw [hlo] at hod hom ⊢
     have wz : IntKind.u64.wrap (zet : Int) = (zet : Int) := IntWalk.u64_in _ (by omega)
     have hm9 : m ≤ 65536 := by omega
     clear hob hso hZ hD h7 hK4 hF hlo HZZ hom
     go_upto_region 16 with fail
     generalize World.alloc wd _ = w5 at D7 ⊢
     clear c0 c1 c2 c3 c4
     go_wp2_with fail
     go_loopw [19, 20, 21] (fun v19 v20 v21 wl => RsS w wr rd rb aB dB B tb K4 F x zet m v19 v20 v21 wl) (fun _ _ v21 _ => m - (intOf v21).toNat)
     case atStart => exact ⟨0, none, [], p2, rfl, rfl, S0.out, D7.out.lift⟩
     case round =>
      rename World => wl
      obtain ⟨i, en, l, p', rfl, rfl, hC, hD⟩ := hrel
      have CL := Lib.hid hC
      have D := Lib.hid hD
      obtain ⟨t0, t1, -⟩ := hD.cells
      obtain ⟨g0, g1⟩ := CD.out _ _ _ _ hD
      have hi : i ≤ m := hC.1
      have hee := hC.2.2.2.1
      have hie := hC.2.2.2.2.1
      clear hC hD D7
      by_cases hlt : i < m
      ·have i1 : decide ((i : Int) < (m : Int)) = true := decide_eq_true (by omega)
       have T2 := Lib.hid (TT.out _ _ _ _ D.out)
       go_wp2_with fail
       with_reducible refine T2.out.mono ?_
       rintro e w2 ⟨v, p3, bad2, rfl, ht, h2⟩
       have hv9 : v ≤ 262144 := ht.2.2
       have HT1 := Lib.hid ht
       have D2 := Lib.hid h2
       clear ht h2 T2 t0 t1 g0 g1
       go_upto_if 98 with fail
       go_cut [22] from 98 to 107 (fun v22 wc => v22 = .int .i64 (resAt x en v) ∧ DTR w wr rd rb aB dB B tb p3 (bad2 || zagBad x en v) [⟨77, u19, u32V l⟩] K4 wc)
       case first =>
        cases en with
        | none =>
         have hi0 : i = 0 := hie.2 rfl
         have i0 : ((i : Int) == 0) = true := by rw [hi0]; rfl
         have ZG := Lib.hid (D2.out.zag v x (by omega) hx)
         clear hi0 hie
         go_wp2_with fail
         with_reducible refine ZG.out.mono ?_
         rintro e w3 ⟨rfl, h3⟩
         have D3 := Lib.hid h3
         clear h3 ZG
         go_wp2_with fail
         go_meet
         case rel => exact ⟨rfl, D3.out⟩
        | some e' =>
         have hi0 : i ≠ 0 := fun h => by have := hie.1 h; cases this
         have i0 : ((i : Int) == 0) = false := beq_eq_false_iff_ne.2 (by omega)
         have he9 := hee e' rfl
         have q1 : IntKind.i64.wrap ((v : Int) + endD (some e')) = (v : Int) + (e' : Int) := IntWalk.i64_in _ (by show _ ≤ (v : Int) + (e' : Int) ∧ (v : Int) + (e' : Int) ≤ _; omega)
         have q2 : IntKind.i64.wrap ((v : Int) + (e' : Int) + 1) = resAt x (some e') v := by
          rw [IntWalk.i64_in _ (by omega)]
          show _ = (v : Int) + ((e' : Int) + 1)
          omega
         have D3 : Hid (DTR w wr rd rb aB dB B tb p3 (bad2 || zagBad x (some e') v) [⟨77, u19, u32V l⟩] K4 w2) := Lib.hid (by
          rw [show zagBad x (some e') v = false from rfl, Bool.or_false]
          exact D2.out)
         clear hie
         go_wp2_with fail
         go_meet
         case rel => exact ⟨rfl, D3.out⟩
       case rest =>
        rename World => w4
        obtain ⟨rfl, hD3⟩ := hcut
        have hrb := resAt_bound (x := x) hx hee hv9
        have D3 := Lib.hid hD3
        obtain ⟨t0, t1, -⟩ := hD3.cells
        clear hD3 D2 hee hie
        obtain ⟨fr, hfr⟩ : ∃ f, resAt x en v = f := ⟨_, rfl⟩
        have HFR := Lib.hid hfr
        rw [hfr] at hrb ⊢
        clear hfr
        obtain ⟨bd, hbd⟩ : ∃ b, (bad2 || zagBad x en v) = b := ⟨_, rfl⟩
        have HBD := Lib.hid hbd
        rw [hbd] at D3 t1
        clear hbd
        have FNX : Hid (F = none → DocP Z deg w wr rd rb aB dB B K (.returned (.tuple #[.slice none 0 0, .bool false])) w4) := Lib.hid (fun h => NOX.out (by rw [ZF.out, h]; rfl) _ _ _ _ _ HK4.out (DTR.bare D3.out))
        cases bd with
        | true =>
         have FN := Lib.hid (FNX.out (CL.out.no hlt HT1.out (.inl HBD.out)))
         go_wp2_with fail
         go_ret2
         exact FN.out
        | false =>
         by_cases hf : 65536 ≤ fr
         ·have o1 : decide ((65536 : Int) ≤ fr) = true := decide_eq_true hf
          have FN := Lib.hid (FNX.out (CL.out.no hlt HT1.out (.inr (by rw [HFR.out]; exact hf))))
          go_wp2_with fail
          go_ret2
          exact FN.out
         ·have o1 : decide ((65536 : Int) ≤ fr) = false := decide_eq_false hf
          obtain ⟨h0f, hst⟩ := CL.out.step hlt HT1.out HBD.out (by rw [HFR.out]; omega)
          rw [HFR.out] at h0f hst
          obtain ⟨f, hff⟩ : ∃ f : Nat, fr = (f : Int) := ⟨fr.toNat, by omega⟩
          subst hff
          rw [Int.toNat_natCast] at hst
          have ST2 := Lib.hid hst
          have hl1 : l.length = i := CL.out.2.1
          have HL1 := Lib.hid hl1
          have r2 : IntKind.u32.wrap (f : Int) = (f : Int) := by rw [IntKind.wrap_u32]; omega
          have own5 := (DTR.next D3.out ((Below.refl _ _).alloc (Nat.le_refl w4.heap.size) (.cells #[.int .u32 (f : Int)] 77))).own
          unfold Rw.owned at own5
          dsimp only at own5
          rw [u32V_length, hl1] at own5
          have OA := Lib.hid own5
          have C3 : Hid (i + 1 ≤ maxLen) := Lib.hid (by simp only [maxLen]; omega)
          have C4 : Hid ((i + 1) * 4 ≤ 140737488355328) := Lib.hid (by omega)
          have DA := Lib.hid (DTR.next D3.out ((Below.refl _ _).alloc (Nat.le_refl w4.heap.size) (.cells #[.int .u32 (f : Int)] 77)))
          clear hst own5 hl1
          go_wp2_with (at_builtin; refine wpList_append_at _ rfl _ _ 34 rfl 0 77 j0 _ 1 4 Tryz.underlying34 hj hj0 hj1 hj2 rfl (by decide) _ i _ rfl OA.out _ 1 1 [.int .u32 (f : Int)] rfl rfl (cell_one_new _ _ _) (fun u hu => by simp at hu; subst hu; rfl) C3.out C4.out (Nat.zero_le _) (by decide) ?_)
          intro v8 w8 own8 hg8 hw8
          have D8 : Hid (DTR w wr rd rb aB dB B tb p3 false [⟨77, v8, u32V (l ++ [f])⟩] K4 w8) := Lib.hid (by
           refine DA.out.push (v' := v8) (xs' := u32V (l ++ [f])) ?_ hg8 (by simpa using hw8)
           rw [u32V_length, List.length_append, HL1.out, u32V_append]
           exact own8)
          clear own8 hg8 hw8 OA DA
          go_wp2_with fail
          go_roundw
          case rel => exact ⟨i + 1, some f, l ++ [f], p3, rfl, by go_num, ST2.out, D8.out⟩
          case measure => simp [intOf]; try omega
      ·have hiz : i = m := by omega
       have i1 : decide ((i : Int) < (m : Int)) = false := decide_eq_false (by omega)
       have FE := Lib.hid (CL.out.fin hiz)
       have hlm : l.length = m := by have := CL.out.2.1; omega
       have hlb := CL.out.2.2.1
       obtain ⟨kr, sr, dr, rfl, hrd, hsr, h8⟩ := D.out.still (by omega) (fun v hv => Nat.lt_trans (hlb v hv) (by decide))
       have D8 := Lib.hid h8
       have LVo := Lib.hid (HSO.out wl (fun q hq => h8.has (List.mem_append_right _ (HKs.out q hq))))
       have LVr := Lib.hid (hsr wl (fun q hq => h8.has (List.mem_append_left _ hq)))
       have MG := Lib.hid (dmerged_any wl so sr o l dd dr (by rw [HLO.out]; exact hod) hrd LVo.out LVr.out (by have h1 := HOM.out; rw [HLO.out] at h1 ⊢; omega))
       have HLB := Lib.hid hlb
       have HLM := Lib.hid hlm
       rw [HLO.out, hlm] at MG
       rw [hlm]
       clear h8 hsr hlm hlb hrd D g0 g1 t0 t1
       go_wp2_with fail
       with_reducible refine MG.out.mono ?_
       rintro e w2 hM
       cases hmg : mrg o l with
       | none =>
        obtain ⟨rfl, k9⟩ := hM.2 hmg
        have D5 := Lib.hid (D8.out.next k9)
        obtain ⟨t0, t1, -⟩ := D5.out.cells
        obtain ⟨c0, -, -, -, -⟩ := CC.out _ _ _ _ _ _ (fun q hq => List.mem_append_right _ (HK4.out q hq)) D5.out
        have FN := Lib.hid (fun nq => NOX.out (by rw [ZF.out, FE.out, Option.bind_some, hmg]; rfl) _ _ _ _ _ (fun q hq => List.mem_append_right _ (HK4.out q hq)) (D5.out.drewN nq))
        clear hmg k9 hM MG
        go_upto_region 30 with fail
        go_quiet (fail)
        go_wp2_with fail
        go_ret2
        exact FN.out _
       | some sx =>
        obtain ⟨v, rfl, own, k9⟩ := hM.1 sx hmg
        have D5 := Lib.hid (D8.out.fresh k9 own)
        have pm := mrg_mem _ _ _ _ (Nat.le_refl _) hmg
        have hsb : ∀ v ∈ sx, v < 65536 := fun v hv => by
         rcases List.mem_append.1 (pm.mem_iff.1 hv) with h | h
         ·exact HO.out v h
         ·exact HLB.out v h
        have hsl : sx.length = deg := by rw [pm.length_eq, List.length_append, HLM.out]; exact HOM.out
        have HSL := Lib.hid hsl
        have FN : Hid (∀ nq, DocP Z deg w wr rd rb aB dB B K (.returned (.tuple #[v, .bool true])) (w2.drewN nq)) := Lib.hid fun nq => ⟨v, sx, p', true, rfl, fun _ => ⟨by rw [ZF.out, FE.out, Option.bind_some, hmg]; rfl, hsl⟩, fun h => (by cases h), by omega, hsb, OUT.out _ _ _ _ _ _ (fun q hq => List.mem_append_right _ (HK4.out q hq)) (D5.out.drewN nq)⟩
        obtain ⟨sv, cv, rfl⟩ := own_shape own
        rw [hsl] at FN ⊢
        obtain ⟨t0, t1, -⟩ := D5.out.cells
        obtain ⟨c0, -, -, -, -⟩ := CC.out _ _ _ _ _ _ (fun q hq => List.mem_append_right _ (HK4.out q hq)) D5.out
        clear hmg k9 hM MG own pm hsb hsl
        go_upto_region 30 with fail
        go_quiet (fail)
        go_wp2_with fail
        go_ret2
        exact FN.out _
end Go.Proofs.YtflnpcgnenhogaaGreatDoor.ls
namespace Go.Proofs.YtflnpcgnenhogaaGreatDoor.ls
open Go.RowKit Go.Proofs.YtflnpcgnenhogaaGreatDoor.own Go.Proofs.YtflnpcgnenhogaaGreatDoor.bit

def headN (deg ref win : Nat) : Nat := (cb .gam deg).length + (if 0 < deg ∧ 0 < win then ref + 1 else 0)
set_option maxRecDepth 100000 in
set_option maxHeartbeats 3200000 in
theorem dhead_bits (deg ref win itv zet : Nat) (hd : deg ≤ 65536) (hr : ref ≤ 16) (w : World) : Calls Tryz.prog 56 #[.agg #[.int .i64 (deg : Int), .int .i64 (ref : Int)], .agg #[.int .i64 (win : Int), .int .i64 (itv : Int), .int .i64 (zet : Int)]] w fun e w' => e = .returned (.int .i64 (headN deg ref win : Int)) ∧ Below w.heap.size w w' := by
 have GA := Lib.hid (fun W => gamma_any deg (by omega) W)
 obtain ⟨N, hN⟩ : ∃ N, (cb .gam deg).length = N := ⟨_, rfl⟩
 have hN9 : N ≤ 1000000 := by
  rw [← hN, cb_gam, List.length_append, un_length, ofN_length]
  have := Nat.log2_le_self (deg + 1)
  omega
 have HH : Hid (headN deg ref win = N + (if 0 < deg ∧ 0 < win then ref + 1 else 0)) := Lib.hid (by unfold headN; rw [hN])
 have HN := Lib.hid hN
 clear hN
 go_enter Tryz.func56, Tryz.ntmps56
 go_upto_region 2 with fail
 have rA := heap_alloc_new w (.cells #[.int .i64 (deg : Int), .int .i64 (ref : Int)] 33)
 have kA : Below w.heap.size w (w.alloc (.cells #[.int .i64 (deg : Int), .int .i64 (ref : Int)] 33)) := (Below.refl _ _).alloc (Nat.le_refl _) _
 have hsz : (w.alloc (.cells #[.int .i64 (deg : Int), .int .i64 (ref : Int)] 33)).heap.size = w.heap.size + 1 := by simp
 generalize World.alloc w _ = W1 at rA kA hsz ⊢
 have rB := heap_alloc_new W1 (.cells #[.int .i64 (win : Int), .int .i64 (itv : Int), .int .i64 (zet : Int)] 36)
 have kB : Below W1.heap.size W1 (W1.alloc (.cells #[.int .i64 (win : Int), .int .i64 (itv : Int), .int .i64 (zet : Int)] 36)) := (Below.refl _ _).alloc (Nat.le_refl _) _
 rw [hsz] at rB
 have rA2 := (kB.block _ (lt_of_block rA)).trans rA
 have k2 := kA.trans (kB.mono kA.size)
 generalize World.alloc W1 _ = W2 at rB kB rA2 k2 ⊢
 with_reducible refine (GA.out _).mono ?_
 rintro e W3 ⟨v, rfl, own, k3⟩
 have a3 := (k3.block _ (lt_of_block rA2)).trans rA2
 have b3 := (k3.block _ (lt_of_block rB)).trans rB
 have K3 := Lib.hid (k2.trans (k3.mono k2.size))
 have c0 : W3.cell? ⟨w.heap.size, 0, none⟩ = some (.int .i64 (deg : Int)) := by rw [cell_of_row _ _ _ _ _ _ a3]; rfl
 have c1 : W3.cell? ⟨w.heap.size, 1, none⟩ = some (.int .i64 (ref : Int)) := by rw [cell_of_row _ _ _ _ _ _ a3]; rfl
 have c2 : W3.cell? ⟨w.heap.size + 1, 0, none⟩ = some (.int .i64 (win : Int)) := by rw [cell_of_row _ _ _ _ _ _ b3]; rfl
 rw [HN.out] at own
 obtain ⟨sv, cv, e3⟩ := own_shape own
 subst e3
 have w1 : IntKind.i64.wrap ((N : Int) + (ref : Int)) = (N : Int) + (ref : Int) := IntWalk.i64_in _ (by omega)
 have w2 : IntKind.i64.wrap ((N : Int) + (ref : Int) + 1) = ((N + (ref + 1) : Nat) : Int) := by rw [IntWalk.i64_in _ (by omega)]; omega
 clear rA kA hsz rB kB rA2 k2 own k3 a3 b3 GA
 by_cases h1 : 0 < deg
 ·have i1 : decide ((0 : Int) < (deg : Int)) = true := decide_eq_true (by omega)
  by_cases h2 : 0 < win
  ·have i2 : decide ((0 : Int) < (win : Int)) = true := decide_eq_true (by omega)
   go_wp2_with fail
   go_ret
   exact ⟨by rw [HH.out, if_pos ⟨h1, h2⟩]; rfl, K3.out⟩
  ·have i2 : decide ((0 : Int) < (win : Int)) = false := decide_eq_false (by omega)
   go_wp2_with fail
   go_ret
   exact ⟨by rw [HH.out, if_neg (fun h => h2 h.2)]; rfl, K3.out⟩
 ·have i1 : decide ((0 : Int) < (deg : Int)) = false := decide_eq_false (by omega)
  go_wp2_with fail
  go_ret
  exact ⟨by rw [HH.out, if_neg (fun h => h1 h.1)]; rfl, K3.out⟩
end Go.Proofs.YtflnpcgnenhogaaGreatDoor.ls
namespace Go.Proofs.YtflnpcgnenhogaaGreatDoor.ls
open Go.RowKit Go.Proofs.YtflnpcgnenhogaaGreatDoor.own Go.Proofs.YtflnpcgnenhogaaGreatDoor.bit

theorem blv_own {w : World} {base : Nat} {v : Value} {l : Bits} (h : w.ownsRow base 4 1 v l.length (bls l)) : ∃ a cap, v = .slice a l.length cap ∧ l.length ≤ cap ∧ BlV w a l := by
 rcases h.2 with ⟨hv, h0⟩ | ⟨g, cap, cur, hv, hbb, hg, hn, hc, hcs, _⟩
 ·exact ⟨none, 0, by rw [hv, h0], by omega, fun k hk => by omega⟩
 ·subst hv
  refine ⟨_, _, rfl, hn, fun k hk => ⟨g, 0, rfl, lt_of_block hg, ?_⟩⟩
  rw [Nat.zero_add, h.cellAt k (by omega)]
  simp [bls, hk]
theorem hdN_len {l : List Nat} (hl : l ≠ []) (r : Nat) (p : Pr) : (bitsOf (hdN l r p)).length = headN l.length r p.win := by
 have h0 : 0 < l.length := List.length_pos_iff.2 hl
 unfold hdN headN
 rw [bitsOf_cons, List.length_append, if_neg hl]
 by_cases hw : 0 < p.win
 ·rw [if_pos hw, if_pos ⟨h0, hw⟩, bitsOf_cons, bitsOf_nil, List.append_nil]
  rw [show cb .una r = un r from rfl, un_length]
 ·rw [if_neg hw, if_neg (fun h => hw h.2)]
  rfl
theorem lay_eq (x : Nat) (l ref : List Nat) (r : Nat) (p : Pr) : lay x l ref r p = bitsOf (hdN l r p) ++ bitsOf (tlN x l ref r p) := by
 unfold lay nums
 rw [bitsOf_append]
section
variable {B : Bits} {x n deg : Nat} {ref : List Nat} {r : Nat} {p : Pr} {a a' : Nat} {l : List Nat}
theorem dec_out1 (h : dOut (pars B x deg ref r p a) = none) : dec B x n deg ref r p a = none := by
 unfold dec
 cases hp : pars B x deg ref r p a with
 | none => rfl
 | some t =>
  rw [hp] at h
  have h2 : (if (srtN (t.1 ++ t.2.1 ++ t.2.2.1)).Pairwise (· < ·) then some (srtN (t.1 ++ t.2.1 ++ t.2.2.1), t.2.2.2) else none) = none := h
  split at h2
  ·cases h2
  ·next hn => exact if_neg (fun h => hn h.1)
theorem dec_out (h : dOut (pars B x deg ref r p a) = some (l, a')) (hl : l.length = deg) :
  (((∀ v ∈ l, v < n) ∧ bitsOf (tlN x l ref r p) = (B.drop a).take (a' - a)) → dec B x n deg ref r p a = some (l, a')) ∧ (¬ ((∀ v ∈ l, v < n) ∧ bitsOf (tlN x l ref r p) = (B.drop a).take (a' - a)) → dec B x n deg ref r p a = none) := by
 unfold dec
 cases hp : pars B x deg ref r p a with
 | none => rw [hp] at h; cases h
 | some t =>
  rw [hp] at h
  have h2 : (if (srtN (t.1 ++ t.2.1 ++ t.2.2.1)).Pairwise (· < ·) then some (srtN (t.1 ++ t.2.1 ++ t.2.2.1), t.2.2.2) else none) = some (l, a') := h
  split at h2
  ·next hpw =>
   injection h2 with h2
   injection h2 with e1 e2
   have pm := srtN_perm (t.1 ++ t.2.1 ++ t.2.2.1)
   rw [e1] at pm
   rw [Option.bind_some, e1, e2]
   rw [e1] at hpw
   exact ⟨fun hc => if_pos ⟨hpw, by rw [← pm.length_eq]; exact hl, fun v hv => hc.1 v (pm.mem_iff.2 hv), hc.2⟩, fun hc => if_neg (fun k => hc ⟨fun v hv => k.2.2.1 v (pm.mem_iff.1 hv), k.2.2.2⟩)⟩
  ·cases h2
theorem dec_deg0 (hp : p.ok) (ha : a ≤ B.length) (hr : 0 < r) : dec B x n 0 ref r p a = none := by
 unfold dec
 cases hp2 : pars B x 0 ref r p a with
 | none => rfl
 | some t =>
  obtain ⟨c, l, z, a'⟩ := t
  obtain ⟨k1, k2, k3⟩ := pars_le hp hp2 ha
  have k4 := k3 hr
  rw [Option.bind_some]
  refine if_neg (fun h => ?_)
  obtain ⟨h1, h2, h3, h4⟩ := h
  have e : c ++ l ++ z = [] := List.eq_nil_of_length_eq_zero h2
  rw [e] at h4
  have e2 : bitsOf (tlN x (srtN []) ref r p) = [] := by
   have : srtN [] = [] := List.eq_nil_of_length_eq_zero (srtN_perm []).length_eq
   rw [this]
   rfl
  rw [e2] at h4
  have h5 := congrArg List.length h4
  rw [List.length_take, List.length_drop, List.length_nil] at h5
  dsimp only at h5
  omega
end
theorem dOut_pw {t : Option (List Nat × List Nat × List Nat × Nat)} {l : List Nat} {a' : Nat} (h : dOut t = some (l, a')) : l.Pairwise (· < ·) := by
 cases t with
 | none => cases h
 | some t =>
  have h2 : (if (srtN (t.1 ++ t.2.1 ++ t.2.2.1)).Pairwise (· < ·) then some (srtN (t.1 ++ t.2.1 ++ t.2.2.1), t.2.2.2) else none) = some (l, a') := h
  split at h2
  ·next hpw =>
   injection h2 with h2
   injection h2 with e1 e2
   rw [← e1]
   exact hpw
  ·cases h2
theorem bits_pos {L : List (Cd × Nat)} (h : L ≠ []) : 1 ≤ (bitsOf L).length := by
 cases L with
 | nil => exact absurd rfl h
 | cons q r =>
  rw [show bitsOf (q :: r) = cb q.1 q.2 ++ bitsOf r from rfl, List.length_append]
  have := cb_pos q.1 q.2
  omega
theorem tl_pos {x : Nat} {l ref : List Nat} {r : Nat} {p : Pr} (hl : l ≠ []) (hr : 0 < r ∨ ref = []) : 1 ≤ (bitsOf (tlN x l ref r p)).length := by
 refine bits_pos ?_
 unfold tlN
 rw [if_neg hl]
 by_cases h0 : 0 < r
 ·unfold runN
  rw [if_pos h0]
  simp
 ·obtain rfl := hr.resolve_left h0
  have e : leftOf l [] = l := by
   unfold leftOf isIn
   rw [List.filter_eq_self]
   intro v _
   simp
  rw [e]
  unfold restN
  rw [if_neg hl]
  by_cases hi : 0 < p.itv
  ·rw [if_pos hi]
   simp
  ·rw [if_neg hi, show p.itv = 0 by omega, rws_zero]
   cases l with
   | nil => exact absurd rfl hl
   | cons v r => simp [znm]
/-- what the document's Decode answers -/
def DDecP (O : Option (List Nat × Nat)) (w : World) (wr : Option (Nat × Bits)) (rd : Option (Nat × ByteArray × Nat)) (rb : Nat) (aB : Option Addr) (dB : Nat) (B : Bits) (a : Nat) (K : List (Nat × Obj)) (e : Ending) (w' : World) : Prop :=
 match O with
 | some q => ∃ v, e = .returned (.tuple #[v, .int .i64 0]) ∧ DRR w wr rd rb aB dB B q.2 [⟨77, v, u32V q.1⟩] K w'
 | none => e = .returned (.tuple #[.slice none 0 0, .int .i64 4]) ∧ DRR w wr rd rb aB dB B a [] K w'
theorem DRR.bits {w W : World} {wr : Option (Nat × Bits)} {rd : Option (Nat × ByteArray × Nat)} {rb : Nat} {aB : Option Addr} {dB : Nat} {B : Bits} {p : Nat} {rs : List Rw} {K : List (Nat × Obj)} (h : DRR w wr rd rb aB dB B p rs K W) : BlV W aB B := h.2.2.1 W (fun _ hq => h.has hq)
theorem DRR.lv {w W : World} {wr : Option (Nat × Bits)} {rd : Option (Nat × ByteArray × Nat)} {rb : Nat} {aB : Option Addr} {dB : Nat} {B : Bits} {p : Nat} {rs : List Rw} {K : List (Nat × Obj)} {v : Value} {l : List Nat} (h : DRR w wr rd rb aB dB B p (⟨77, v, u32V l⟩ :: rs) K W) (hl : l.length ≤ 1000000) (hb : ∀ u ∈ l, u < 65536) :
  ∃ a cap, v = .slice a l.length cap ∧ l.length ≤ cap ∧ LV W a l := by
 have h1 := h.1.own
 unfold Rw.owned at h1
 dsimp only at h1
 rw [u32V_length] at h1
 exact lv_own (by omega) (fun u hu => Nat.lt_trans (hb u hu) (by decide)) h1
theorem DRR.nil {w W : World} {wr : Option (Nat × Bits)} {rd : Option (Nat × ByteArray × Nat)} {rb : Nat} {aB : Option Addr} {dB : Nat} {B : Bits} {p : Nat} {rs : List Rw} {K : List (Nat × Obj)} (h : DRR w wr rd rb aB dB B p rs K W) : DRR w wr rd rb aB dB B p (⟨77, .slice none 0 0, u32V []⟩ :: rs) K W := ⟨h.1.lift, h.2⟩
theorem DRR.bare {w W : World} {wr : Option (Nat × Bits)} {rd : Option (Nat × ByteArray × Nat)} {rb : Nat} {aB : Option Addr} {dB : Nat} {B : Bits} {p : Nat} {rs : List Rw} {K : List (Nat × Obj)} (h : DRR w wr rd rb aB dB B p rs K W) : DRR w wr rd rb aB dB B p [] K W := ⟨h.1.fs, h.2⟩
set_option maxRecDepth 100000 in
set_option maxHeartbeats 6400000 in
theorem ddec_any {w W : World} {wr : Option (Nat × Bits)} {rd : Option (Nat × ByteArray × Nat)} {rb : Nat} {aB : Option Addr} {dB : Nat} {B : Bits} {p : Nat} {K : List (Nat × Obj)} (h : DRd w wr rd rb aB dB B p K W)
  (x n deg r : Nat) (pr : Pr) (hx : x < 65536) (hn : n ≤ 65536) (hd : deg ≤ 65536) (hr : r ≤ pr.win) (hp : pr.ok) (ar : Option Addr) (ref : List Nat) (cap : Nat) (hcap : ref.length ≤ cap) (hris : Ris ref) (hr0 : 0 < r ∨ ref = []) (hA : Seen w K ar ref) :
  Calls Tryz.prog 17 #[.pointer (some ⟨rb, 0, none⟩), .int .i64 (x : Int), .int .i64 (n : Int), .agg #[.int .i64 (deg : Int), .int .i64 (r : Int)], .slice ar ref.length cap, parV (pr.win : Int) (pr.itv : Int) (pr.zet : Int)] W (DDecP (dec B x n deg ref r pr p) w wr rd rb aB dB B p K) := by
 have HB6 := Lib.hid h.2.2.1
 have hlen := hris.len
 have hpB := h.2.2.2.1
 have hB9 := h.2.2.2.2.2.1
 have HHB := Lib.hid h.2.2.2.2
 have hp' := hp
 obtain ⟨win, itv, zet⟩ := pr
 obtain ⟨hp1, hp2, hp3⟩ := hp'
 dsimp only at hp1 hp2 hp3 hr ⊢
 have CK : Hid (∀ W, Calls Tryz.prog 47 #[.agg #[.int .i64 (win : Int), .int .i64 (itv : Int), .int .i64 (zet : Int)]] W fun e w' => e = .returned (.int .i64 0) ∧ Below W.heap.size W w') := Lib.hid (fun W => by
  have h := dcheck_any (win : Int) (itv : Int) (zet : Int) W
  rw [if_pos (show ParOk (win : Int) (itv : Int) (zet : Int) from ⟨by omega, by omega, by omega, by omega, by omega⟩)] at h
  exact h)
 have SU : Hid (∀ W a cap (l : List Nat), LV W a l → Ris l → Calls Tryz.prog 53 #[.slice a l.length cap] W fun e w' => e = .returned (.bool true) ∧ Below W.heap.size W w') := Lib.hid (fun W a cap l h hr => (dsucc_any W a l cap h).mono (by
  rintro e w' ⟨b, rfl, hb, k⟩
  rw [hb.2 hr]
  exact ⟨rfl, k⟩))
 have D0 := Lib.hid (fun W' K' (hk : ∀ q ∈ K, q ∈ K') (h : DRd w wr rd rb aB dB B p K' W') => ddec0_any h x deg r ⟨win, itv, zet⟩ hx hd (by omega) hp ar ref cap hcap hris (hA.more hk))
 have LY := Lib.hid (fun W' a l capl (hc : l.length ≤ capl) (hl : Ris l) (h1 : LV W' a l) (h2 : LV W' ar ref) => dlaid_any ⟨win, itv, zet⟩ x W' a l capl ar ref cap r hc hcap ⟨hp, hx, hl, hris, hr, hr0⟩ h1 h2)
 have LL := Lib.hid (fun l (hl : Ris l) => lay_len (x := x) (succ := l) (ref := ref) (r := r) (p := ⟨win, itv, zet⟩) ⟨hp, hx, hl, hris, hr, hr0⟩)
 have HD := Lib.hid (fun W => dhead_bits deg r win itv zet hd (by omega) W)
 have HS := Lib.hid hA
 have HR := Lib.hid hris
 have h9 := (h.add #[.int .i64 (deg : Int), .int .i64 (r : Int)] 33).add #[.int .i64 (win : Int), .int .i64 (itv : Int), .int .i64 (zet : Int)] 36
 rw [show (W.alloc (.cells #[.int .i64 (deg : Int), .int .i64 (r : Int)] 33)).heap.size = W.heap.size + 1 by simp] at h9
 obtain ⟨hb, hhb⟩ : ∃ z, W.heap.size = z := ⟨_, rfl⟩
 rw [hhb] at h9
 obtain ⟨K2, hK2⟩ : ∃ K', (hb + 1, Obj.cells #[.int .i64 (win : Int), .int .i64 (itv : Int), .int .i64 (zet : Int)] 36 (0, 0)) :: (hb, Obj.cells #[.int .i64 (deg : Int), .int .i64 (r : Int)] 33 (0, 0)) :: K = K' := ⟨_, rfl⟩
 rw [hK2] at h9
 have H0 := Lib.hid h9
 have HK : Hid (∀ q ∈ K, q ∈ K2) := Lib.hid (fun q hq => by rw [← hK2]; exact List.mem_cons_of_mem _ (List.mem_cons_of_mem _ hq))
 have CC : Hid (∀ W' p' rs, DRR w wr rd rb aB dB B p' rs K2 W' → W'.cell? ⟨hb, 0, none⟩ = some (.int .i64 (deg : Int)) ∧ W'.cell? ⟨hb, 1, none⟩ = some (.int .i64 (r : Int)) ∧ W'.cell? ⟨hb + 1, 0, none⟩ = some (.int .i64 (win : Int)) ∧ W'.cell? ⟨hb + 1, 1, none⟩ = some (.int .i64 (itv : Int)) ∧ W'.cell? ⟨hb + 1, 2, none⟩ = some (.int .i64 (zet : Int)) ∧ W'.cell? ⟨rb, 0, none⟩ = some (.slice aB B.length dB) ∧ W'.cell? ⟨rb, 1, none⟩ = some (.int .i64 (p' : Int)) ∧ W'.frozen? ⟨rb, 1, none⟩ = false) := Lib.hid (fun W' p' rs h => by
  have r : W'.heap[hb]? = some (.cells #[.int .i64 (deg : Int), .int .i64 (r : Int)] 33 (0, 0)) := h.has (q := (hb, _)) (by rw [← hK2]; exact List.mem_cons_of_mem _ (List.mem_cons_self ..))
  have r2 : W'.heap[hb + 1]? = some (.cells #[.int .i64 (win : Int), .int .i64 (itv : Int), .int .i64 (zet : Int)] 36 (0, 0)) := h.has (q := (hb + 1, _)) (by rw [← hK2]; exact List.mem_cons_self ..)
  exact ⟨by rw [cell_of_row _ _ _ _ _ _ r]; rfl, by rw [cell_of_row _ _ _ _ _ _ r]; rfl, by rw [cell_of_row _ _ _ _ _ _ r2]; rfl, by rw [cell_of_row _ _ _ _ _ _ r2]; rfl, by rw [cell_of_row _ _ _ _ _ _ r2]; rfl, h.cells⟩)
 have OUT : Hid (∀ W' p' rs, DRR w wr rd rb aB dB B p' rs K2 W' → DRR w wr rd rb aB dB B p' rs K W') := Lib.hid (fun W' p' rs h => h.less HK.out HB6.out)
 obtain ⟨D, hD⟩ : ∃ Z, dec B x n deg ref r ⟨win, itv, zet⟩ p = Z := ⟨_, rfl⟩
 have E1 := Lib.hid (fun (h1 : dOut (pars B x deg ref r ⟨win, itv, zet⟩ p) = none) => hD.symm.trans (dec_out1 (n := n) h1))
 have E2 := Lib.hid (fun l a' (h1 : dOut (pars B x deg ref r ⟨win, itv, zet⟩ p) = some (l, a')) (h2 : l.length = deg) => (dec_out (n := n) h1 h2))
 rw [hD] at E2
 have E3 : Hid (deg = 0 → 0 < r → D = none) := Lib.hid (fun h1 h2 => by
  rw [← hD, h1]
  exact dec_deg0 hp hpB h2)
 have E4 : Hid (deg = 0 → r = 0 → D = some ([], p)) := Lib.hid (fun h1 h2 => by
  rw [← hD, h1, h2]
  exact dec_zero B x n ref ⟨win, itv, zet⟩ p)
 have NOX : Hid (D = none → ∀ W' rs, DRR w wr rd rb aB dB B p rs K2 W' → DDecP D w wr rd rb aB dB B p K (.returned (.tuple #[.slice none 0 0, .int .i64 4])) W') := Lib.hid (fun hz W' rs h => by
  rw [hz]
  exact ⟨rfl, OUT.out _ _ _ h.bare⟩)
 have hrl : r = 0 → ref.length = 0 := fun h => by rcases hr0 with h1 | h1; omega; rw [h1]; rfl
 have HRL := Lib.hid hrl
 have Q0 : Hid (∀ W', Below w.heap.size w W' → (∀ q ∈ K2, W'.heap[q.1]? = some q.2) → LV W' ar ref) := Lib.hid (fun W' k hq => HS.out W' k (fun q hqk => hq q (HK.out q hqk)))
 rw [hD]
 unfold parV at D0 LY ⊢
 obtain ⟨O, hO⟩ : ∃ O, dOut (pars B x deg ref r ⟨win, itv, zet⟩ p) = O := ⟨_, rfl⟩
 rw [hO] at D0 E1 E2
 have HOE := Lib.hid hO
 have HTP := Lib.hid (fun l (h0 : l ≠ []) => tl_pos (x := x) (p := ⟨win, itv, zet⟩) h0 hr0)
 have HEQ := Lib.hid (fun l (h0 : l ≠ []) => And.intro (lay_eq x l ref r ⟨win, itv, zet⟩) (hdN_len h0 r ⟨win, itv, zet⟩))
 clear h h9 hD hK2 hA hris hp hr0 hrl hO
 obtain ⟨n0, hn0⟩ : ∃ n, ref.length = n := ⟨_, rfl⟩
 have HN0 := Lib.hid hn0
 rw [hn0] at hlen hcap D0 LY HRL ⊢
 have SR1 : Hid (∀ W', Below w.heap.size w W' → (∀ q ∈ K2, W'.heap[q.1]? = some q.2) → Calls Tryz.prog 53 #[.slice ar n0 cap] W' fun e w' => e = .returned (.bool true) ∧ Below W'.heap.size W' w') := Lib.hid (fun W' k hq => by
  have h := SU.out W' ar cap ref (Q0.out W' k hq) HR.out
  rw [hn0] at h
  exact h)
 clear hn0
 go_enter Tryz.func17, Tryz.ntmps17
 go_upto_region 1 with fail
 generalize World.alloc (World.alloc W _) _ = W0 at H0 ⊢
 clear hhb
 go_cut [74] from 19 to 75 (fun v74 wc => v74 = .bool false ∧ DRd w wr rd rb aB dB B p K2 wc)
 case first =>
  obtain ⟨c0, c1, c2, c3, c4, c5, c6, c7⟩ := CC.out _ _ _ H0.out.rows
  go_wp2_with fail
  with_reducible refine (CK.out _).mono ?_
  rintro e w1 ⟨rfl, k1⟩
  have H1 := Lib.hid (H0.out.next k1)
  clear c0 c1 c2 c3 c4 c5 c6 c7 k1 H0
  obtain ⟨c0, c1, c2, c3, c4, c5, c6, c7⟩ := CC.out _ _ _ H1.out.rows
  have f1 : decide ((x : Int) < 0) = false := decide_eq_false (by omega)
  have f2 : decide ((65536 : Int) ≤ (x : Int)) = false := decide_eq_false (by omega)
  have f3 : decide (65536 ≤ x) = false := decide_eq_false (by omega)
  have f4 : decide ((n : Int) < 0) = false := decide_eq_false (by omega)
  have f5 : decide ((65536 : Int) < (n : Int)) = false := decide_eq_false (by omega)
  have f6 : decide (65536 < n) = false := decide_eq_false (by omega)
  have f7 : decide ((deg : Int) < 0) = false := decide_eq_false (by omega)
  have f8 : decide ((65536 : Int) < (deg : Int)) = false := decide_eq_false (by omega)
  have f9 : decide (65536 < deg) = false := decide_eq_false (by omega)
  have fa : decide ((r : Int) < 0) = false := decide_eq_false (by omega)
  have S1 := Lib.hid (SR1.out w1 H1.out.1.below (fun q hq => H1.out.1.row (b := q.1) (o := q.2) (List.mem_cons_of_mem _ hq)))
  go_wp2_with fail
  with_reducible refine S1.out.mono ?_
  rintro e w2 ⟨rfl, k2⟩
  have H2 := Lib.hid (H1.out.next k2)
  clear c0 c1 c2 c3 c4 c5 c6 c7 k2 H1 S1 SR1
  obtain ⟨c0, c1, c2, c3, c4, c5, c6, c7⟩ := CC.out _ _ _ H2.out.rows
  have g1 : decide ((win : Int) < (r : Int)) = false := decide_eq_false (by omega)
  have g2 : decide (win < r) = false := decide_eq_false (by omega)
  by_cases hrz : r = 0
  ·obtain rfl : n0 = 0 := HRL.out hrz
   subst hrz
   go_wp2_with fail
   go_meet
   case rel => exact ⟨rfl, H2.out⟩
  ·have i1 : ((r : Int) == 0) = false := beq_eq_false_iff_ne.2 (by omega)
   go_wp2_with fail
   go_meet
   case rel => exact ⟨rfl, H2.out⟩
 case rest =>
  rename World => w3
  obtain ⟨rfl, h3⟩ := hcut
  have H3 := Lib.hid h3
  obtain ⟨c0, c1, c2, c3, c4, c5, c6, c7⟩ := CC.out _ _ _ h3.rows
  clear h3 H0 SR1 CK
  by_cases hdz : deg = 0
  ·have i1 : ((deg : Int) == 0) = true := by rw [hdz]; rfl
   by_cases hrz : r = 0
   ·have i2 : decide ((0 : Int) < (r : Int)) = false := decide_eq_false (by omega)
    have i3 : decide (0 < r) = false := decide_eq_false (by omega)
    have FN : Hid (DDecP D w wr rd rb aB dB B p K (.returned (.tuple #[.slice none 0 0, .int .i64 0])) w3) := Lib.hid (by
     rw [E4.out hdz hrz]
     exact ⟨_, rfl, OUT.out _ _ _ H3.out.rows.nil⟩)
    clear hdz hrz
    go_wp2_with fail
    go_ret2
    exact FN.out
   ·have i2 : decide ((0 : Int) < (r : Int)) = true := decide_eq_true (by omega)
    have i3 : decide (0 < r) = true := decide_eq_true (by omega)
    have FN := Lib.hid (NOX.out (E3.out hdz (by omega)) _ _ H3.out.rows)
    clear hdz hrz
    go_wp2_with fail
    go_ret2
    exact FN.out
  ·have i1 : ((deg : Int) == 0) = false := beq_eq_false_iff_ne.2 (by omega)
   have D1 := Lib.hid (D0.out _ _ HK.out H3.out)
   go_wp2_with fail
   with_reducible refine D1.out.mono ?_
   rintro e w4 ⟨v, l, p2, ok, rfl, ho1, ho2, hl9, hlb, h4⟩
   have H4 := Lib.hid h4
   have LB := Lib.hid hlb
   clear c0 c1 c2 c3 c4 c5 c6 c7 D1 D0 H3
   obtain ⟨c0, c1, c2, c3, c4, c5, c6, c7⟩ := CC.out _ _ _ h4
   cases ok with
   | false =>
    have DN := Lib.hid (E1.out (ho2 rfl))
    have F := Lib.hid (NOX.out DN.out _ _ (h4.set p hpB))
    clear h4 hlb ho1 ho2
    go_wp2_with fail
    go_ret2
    exact F.out
   | true =>
    obtain ⟨ho3, hld⟩ := ho1 rfl
    obtain ⟨al, cl, rfl, hcl, hLV⟩ := h4.lv hl9 hlb
    have LV4 := Lib.hid hLV
    have O3 := Lib.hid ho3
    have HLD := Lib.hid hld
    have pw : l.Pairwise (· < ·) := dOut_pw (HOE.out.trans ho3)
    have RL : Hid (Ris l) := Lib.hid ⟨pw, hlb⟩
    obtain ⟨e2y, e2n⟩ := E2.out l p2 ho3 hld
    have EY := Lib.hid e2y
    have EN := Lib.hid e2n
    have S2 := Lib.hid (SU.out w4 al cl l hLV RL.out)
    have hl0 : 0 < l.length := by omega
    have HL0 := Lib.hid hl0
    have hk : deg - 1 < l.length := by omega
    obtain ⟨gl, ol, hal, hgl, hcell, hb32⟩ := hLV.2 (deg - 1) hk
    obtain ⟨la, hla⟩ : ∃ z, l[deg - 1] = z := ⟨_, rfl⟩
    have hla9 : la < 65536 := by rw [← hla]; exact hlb _ (List.getElem_mem hk)
    have RLA : Hid ((∀ v ∈ l, v < n) ↔ la < n) := Lib.hid (by
     rw [ris_last RL.out hl0 n]
     simp only [hld]
     rw [hla])
    rw [hla] at hcell
    have HCL := Lib.hid (And.intro hgl hcell)
    subst hal
    rw [hld] at S2 hcl hl9 ⊢
    clear h4 hlb ho1 ho2 ho3 hLV pw e2y e2n hl0 hgl hcell hla hb32 hk hld
    have j1 : ((deg : Int) == 0) = false := i1
    have qd : IntKind.i64.wrap ((deg : Int) - 1) = ((deg - 1 : Nat) : Int) := by rw [IntWalk.i64_in _ (by omega)]; omega
    have wla : IntKind.i64.wrap (la : Int) = (la : Int) := IntWalk.i64_in _ (by omega)
    go_upto_region 9 with fail
    go_wp2_with fail
    with_reducible refine S2.out.mono ?_
    rintro e w5 ⟨rfl, k5⟩
    have H5 := Lib.hid (DRR.next H4.out k5)
    have LV5 := Lib.hid (LV.below LV4.out k5)
    have lc : w5.cell? ⟨gl, ol + (deg - 1), none⟩ = some (.int .u32 (la : Int)) := (k5.cell HCL.out.1).trans HCL.out.2
    clear c0 c1 c2 c3 c4 c5 c6 c7 k5
    obtain ⟨c0, c1, c2, c3, c4, c5, c6, c7⟩ := CC.out _ _ _ H5.out
    obtain ⟨dl, hdl⟩ : ∃ z, deg - 1 = z := ⟨_, rfl⟩
    rw [hdl] at qd lc
    have hdl2 : dl < deg := by omega
    have ed : (deg : Int) - 1 = (dl : Int) := by omega
    have HDL := Lib.hid hdl
    clear hdl
    by_cases hln : la < n
    ·have j2 : decide ((la : Int) < (n : Int)) = true := decide_eq_true (by omega)
     have AV : Hid (∀ v ∈ l, v < n) := Lib.hid (RLA.out.2 hln)
     have LY1 := Lib.hid (LY.out w5 _ l cl (by rw [HLD.out]; exact hcl) RL.out LV5.out (Q0.out w5 (DRR.below H5.out) (fun q hq => DRR.has H5.out hq)))
     rw [HLD.out] at LY1
     go_wp2_with fail
     with_reducible refine LY1.out.mono ?_
     rintro e w6 ⟨v6, rfl, own6, k6⟩
     have lne : l ≠ [] := List.length_pos_iff.1 HL0.out
     obtain ⟨q1, q2⟩ := HEQ.out l lne
     have q3 := HTP.out l lne
     have q4 := LL.out l RL.out
     rw [HLD.out] at q2
     obtain ⟨a6, c9, rfl, hc6, hBl⟩ := blv_own own6
     obtain ⟨TL, hTL⟩ : ∃ z, bitsOf (tlN x l ref r ⟨win, itv, zet⟩) = z := ⟨_, rfl⟩
     rw [hTL] at q1 q3
     obtain ⟨HDb, hHD⟩ : ∃ z, bitsOf (hdN l r ⟨win, itv, zet⟩) = z := ⟨_, rfl⟩
     rw [hHD] at q1 q2
     obtain ⟨HB, hHB⟩ : ∃ z, headN deg r win = z := ⟨_, rfl⟩
     have HDR := Lib.hid (HD.out w6)
     rw [hHB] at HDR
     have q2 : HDb.length = HB := q2.trans hHB
     obtain ⟨N, hN⟩ : ∃ z, (lay x l ref r ⟨win, itv, zet⟩).length = z := ⟨_, rfl⟩
     obtain ⟨T, hT⟩ : ∃ z, TL.length = z := ⟨_, rfl⟩
     have hNT : N = HB + T := by rw [← hN, q1, List.length_append, q2, hT]
     rw [hN] at hc6 q4 ⊢
     rw [hT] at q3
     have H6 := Lib.hid (DRR.next H5.out k6)
     have BL6 := Lib.hid hBl
     have HNT := Lib.hid hNT
     have EQS := Lib.hid (And.intro q1 (And.intro q2 (And.intro hT (And.intro hTL hN))))
     have hp2 : p2 ≤ B.length := H5.out.2.2.2.1
     clear c0 c1 c2 c3 c4 c5 c6 c7 lc LY1 own6 k6 hBl q1 q2 hTL hHD hHB hN hT lne hNT
     obtain ⟨c0, c1, c2, c3, c4, c5, c6, c7⟩ := CC.out _ _ _ H6.out
     go_wp2_with fail
     with_reducible refine HDR.out.mono ?_
     rintro e w7 ⟨rfl, k7⟩
     have H7 := Lib.hid (DRR.next H6.out k7)
     have BL7 := Lib.hid (BlV.below BL6.out k7)
     clear c0 c1 c2 c3 c4 c5 c6 c7 k7 HDR BL6
     obtain ⟨c0, c1, c2, c3, c4, c5, c6, c7⟩ := CC.out _ _ _ H7.out
     have s1 : IntKind.i64.wrap ((HB : Int) + (p2 : Int)) = (HB : Int) + (p2 : Int) := IntWalk.i64_in _ (by have := HNT.out; omega)
     have s2 : IntKind.i64.wrap ((HB : Int) + (p2 : Int) - (p : Int)) = (HB : Int) + (p2 : Int) - (p : Int) := IntWalk.i64_in _ (by have := HNT.out; omega)
     by_cases hT9 : (T : Int) = (p2 : Int) - (p : Int)
     ·have hp9 : p + T = p2 := by omega
      have hNT := HNT.out
      have j3 : ((N : Int) == (HB : Int) + (p2 : Int) - (p : Int)) = true := beq_iff_eq.2 (by omega)
      obtain ⟨hbd, -, hno⟩ := HHB.out
      obtain ⟨gB, oB, rfl⟩ : ∃ g o, aB = some ⟨g, o, none⟩ := by
       rcases hno with ⟨h1, h2⟩ | h
       ·omega
       ·exact h
      obtain ⟨g6, o6, rfl⟩ : ∃ g o, a6 = some ⟨g, o, none⟩ := by
       obtain ⟨g, o, h, _⟩ := BL7.out 0 (by rw [EQS.out.2.2.2.2]; omega)
       exact ⟨g, o, h⟩
      have e1 : ((lay x l ref r ⟨win, itv, zet⟩).drop HB).take T = TL := by
       rw [EQS.out.1, ← EQS.out.2.1, List.drop_left, ← EQS.out.2.2.1, List.take_length]
      have SM : Hid (∀ W', Below w7.heap.size w7 W' → Calls Tryz.prog 57 #[.slice (if c9 = HB then some ⟨g6, o6, none⟩ else some ⟨g6, o6 + HB, none⟩) (N - HB) (c9 - HB), .slice (if dB = p then some ⟨gB, oB, none⟩ else some ⟨gB, oB + p, none⟩) (p2 - p) (dB - p)] W' fun e w' => e = .returned (.bool (decide (TL = (B.drop p).take T))) ∧ Below W'.heap.size W' w') := Lib.hid (fun W' k => by
       have b1 := BlV.cut (p := HB) (n := T) (BL7.out.below k) (by rw [EQS.out.2.2.2.2]; exact hc6)
       rw [e1] at b1
       have b2 := BlV.cut (p := p) (n := T) (DRR.bits (DRR.next H7.out k)) hbd
       have l2 : ((B.drop p).take T).length = T := by rw [List.length_take, List.length_drop]; omega
       have h1 := dsame_any W' _ _ TL ((B.drop p).take T) (c9 - HB) (dB - p) (by rw [l2, EQS.out.2.2.1]) (by rw [EQS.out.2.2.1]; omega) b1 b2
       rw [l2, EQS.out.2.2.1] at h1
       rw [show N - HB = T by omega, show p2 - p = T by omega]
       exact h1)
      obtain ⟨ao, hao⟩ : ∃ z, (if c9 = HB then some (⟨g6, o6, none⟩ : Addr) else some ⟨g6, o6 + HB, none⟩) = z := ⟨_, rfl⟩
      obtain ⟨bo, hbo⟩ : ∃ z, (if dB = p then some (⟨gB, oB, none⟩ : Addr) else some ⟨gB, oB + p, none⟩) = z := ⟨_, rfl⟩
      rw [hao, hbo] at SM
      obtain ⟨bb, hbb⟩ : ∃ b, decide (TL = (B.drop p).take T) = b := ⟨_, rfl⟩
      rw [hbb] at SM
      have HBB := Lib.hid hbb
      have HL6 := Lib.hid (And.intro hc6 hbd)
      obtain ⟨NB, hNB⟩ : ∃ z, B.length = z := ⟨_, rfl⟩
      have RC := Lib.hid (fun W' (k : Below w7.heap.size w7 W') => (⟨(CC.out _ _ _ (DRR.next H7.out k)).2.2.2.2.2.1, (CC.out _ _ _ (DRR.next H7.out k)).2.2.2.2.2.2.1, k⟩ : W'.cell? ⟨rb, 0, none⟩ = some (.slice (some ⟨gB, oB, none⟩) B.length dB) ∧ W'.cell? ⟨rb, 1, none⟩ = some (.int .i64 (p2 : Int)) ∧ Below w7.heap.size w7 W'))
      rw [hNB] at RC hbd hp2 hB9 hpB c5
      have b1 : (0 : Int) ≤ (HB : Int) := by omega
      have b2 : (HB : Int) ≤ (N : Int) := by omega
      have b3 : (N : Int) ≤ (c9 : Int) := by omega
      have b3n : HB ≤ c9 := by omega
      have b4 : (0 : Int) ≤ (p : Int) := by omega
      have b5 : (p : Int) ≤ (p2 : Int) := by omega
      have b6 : (p2 : Int) ≤ (dB : Int) := by omega
      have b6n : p2 ≤ dB := by omega
      have b5n : p ≤ p2 := by omega
      have KX := Lib.hid (fun W' W2 (h : Below w7.heap.size w7 W') (k : Below W'.heap.size W' W2) => h.trans (k.mono h.size))
      have HP9 := Lib.hid hp9
      clear hT9 e1 hbb hp9 hno hNT
      go_upto_region 13 with fail
      have K0 : Below w7.heap.size w7 w7.drew := Below.drew (Below.refl _ _)
      go_region_held3 (fun W' => W'.cell? ⟨rb, 0, none⟩ = some (.slice (some ⟨gB, oB, none⟩) NB dB) ∧ W'.cell? ⟨rb, 1, none⟩ = some (.int .i64 (p2 : Int)) ∧ Below w7.heap.size w7 W')
       (first | exact RC.out _ (by assumption) | exact RC.out _ (Below.drew (by assumption)))
       (first | (go_at_call 57; (with_reducible refine (SM.out _ (by first | assumption | exact Below.drew (by assumption))).mono ?_); rintro e w8 ⟨rfl, k8⟩; have k9 := (by first | exact KX.out _ _ (by assumption) k8 | exact KX.out _ _ (Below.drew (by assumption)) k8 : Below w7.heap.size w7 w8)))
      have H8 := Lib.hid (DRR.next H7.out k9)
      clear k8 c0 c1 c2 c3 c4 c5 c6 c7
      obtain ⟨c0, c1, c2, c3, c4, c5, c6, c7⟩ := CC.out _ _ _ H8.out
      cases bb with
      | true =>
       have FN : Hid (DDecP D w wr rd rb (some ⟨gB, oB, none⟩) dB B p K (.returned (.tuple #[.slice (some ⟨gl, ol, none⟩) deg cl, .int .i64 0])) w8) := Lib.hid (by
        rw [EY.out ⟨AV.out, by rw [EQS.out.2.2.2.1, ← HP9.out, Nat.add_sub_cancel_left]; exact of_decide_eq_true HBB.out⟩]
        exact ⟨_, rfl, by
         have h := OUT.out _ _ _ H8.out
         rw [HLD.out] at h
         exact h⟩)
       go_wp2_with fail
       go_ret2
       exact FN.out
      | false =>
       have DN : Hid (D = none) := Lib.hid (EN.out (fun h => by
        have h1 := h.2
        rw [EQS.out.2.2.2.1, ← HP9.out, Nat.add_sub_cancel_left] at h1
        have := of_decide_eq_false HBB.out
        exact this h1))
       have F := Lib.hid (NOX.out DN.out _ _ (DRR.set H8.out p (by rw [hNB]; exact hpB)))
       go_wp2_with fail
       go_ret2
       exact F.out
     ·have j3 : ((N : Int) == (HB : Int) + (p2 : Int) - (p : Int)) = false := beq_eq_false_iff_ne.2 (by have := HNT.out; omega)
      have DN : Hid (D = none) := Lib.hid (EN.out (fun h => hT9 (by
       have h1 := congrArg List.length h.2
       rw [EQS.out.2.2.2.1, EQS.out.2.2.1, List.length_take, List.length_drop] at h1
       omega)))
      have F := Lib.hid (NOX.out DN.out _ _ (DRR.set H7.out p hpB))
      go_wp2_with fail
      go_ret2
      exact F.out
    ·have j2 : decide ((la : Int) < (n : Int)) = false := decide_eq_false (by omega)
     have DN : Hid (D = none) := Lib.hid (EN.out (fun h => hln (RLA.out.1 h.1)))
     have F := Lib.hid (NOX.out DN.out _ _ (DRR.set H5.out p hpB))
     go_wp2_with fail
     go_ret2
     exact F.out
end Go.Proofs.YtflnpcgnenhogaaGreatDoor.ls
namespace Go.Proofs.YtflnpcgnenhogaaGreatDoor.ls
open Go.RowKit Go.Proofs.YtflnpcgnenhogaaGreatDoor.own Go.Proofs.YtflnpcgnenhogaaGreatDoor.bit

section
variable {w W W2 : World} {wr : Option (Nat × Bits)} {rd : Option (Nat × ByteArray × Nat)} {rb : Nat} {aB : Option Addr} {dB : Nat} {B : Bits} {p : Nat} {K K' : List (Nat × Obj)}
/-- a block beside is written -/
theorem DRd.poke {b j : Nat} {row : Array Value} {T : TypeId} (v : Value) (h : DRd w wr rd rb aB dB B p ((b, .cells row T (0, 0)) :: K) W) (hne : ∀ q ∈ K, q.1 ≠ b) (hB : BSt K aB B) : DRd w wr rd rb aB dB B p ((b, .cells (row.setIfInBounds j v) T (0, 0)) :: K) (W.setCell ⟨b, j, none⟩ v) := by
 obtain ⟨h1, h2, h3, h4⟩ := h
 have hb : b ≠ rb := h2 (b, _) (List.mem_cons_self ..)
 have f := (h1.sub (ks' := (b, .cells row T (0, 0)) :: (rb, .cells #[.slice aB B.length dB, .int .i64 (p : Int)] 29 (0, 0)) :: K) (fun q hq => by
  simp only [List.mem_cons] at hq ⊢
  rcases hq with hq | hq | hq
  ·exact .inr (.inl hq)
  ·exact .inl hq
  ·exact .inr (.inr hq))).store (j := j) v (fun q hq => by
  rcases List.mem_cons.1 hq with rfl | hq
  ·exact fun e => hb e.symm
  ·exact hne q hq)
 refine ⟨f.sub (fun q hq => ?_), fun q hq => ?_, hB.more (fun q hq => List.mem_cons_of_mem _ hq), h4⟩
 ·simp only [List.mem_cons] at hq ⊢
  rcases hq with hq | hq | hq
  ·exact .inr (.inl hq)
  ·exact .inl hq
  ·exact .inr (.inr hq)
 ·rcases List.mem_cons.1 hq with rfl | hq
  ·exact hb
  ·exact h2 q (List.mem_cons_of_mem _ hq)
end
set_option maxRecDepth 100000 in
theorem dhead_no (win itv zet : Int) (hp : ¬ ParOk win itv zet) (rb : Nat) (W : World) :
  Calls Tryz.prog 13 #[.pointer (some ⟨rb, 0, none⟩), parV win itv zet] W fun e w' => e = .returned (.tuple #[.agg #[.int .i64 0, .int .i64 0], .int .i64 1]) ∧ Below W.heap.size W w' := by
 have CK := Lib.hid (fun W => dcheck_any win itv zet W)
 rw [if_neg hp] at CK
 unfold parV at CK ⊢
 go_enter Tryz.func13, Tryz.ntmps13
 go_upto_region 1 with fail
 generalize hW : World.alloc (World.alloc W _) _ = W0
 obtain ⟨r1, r2, kb⟩ := rows2 hW
 have T0 : Hid (Two W W.heap.size _ _ W0) := Lib.hid ⟨kb, r1, r2⟩
 obtain ⟨sz, hsz⟩ : ∃ z, W.heap.size = z := ⟨_, rfl⟩
 rw [hsz] at r1 r2 ⊢
 have c0 : W0.cell? ⟨sz, 0, none⟩ = some (.int .i64 win) := by rw [cell_of_row _ _ _ _ _ _ r1]; rfl
 have c1 : W0.cell? ⟨sz, 1, none⟩ = some (.int .i64 itv) := by rw [cell_of_row _ _ _ _ _ _ r1]; rfl
 have c2 : W0.cell? ⟨sz, 2, none⟩ = some (.int .i64 zet) := by rw [cell_of_row _ _ _ _ _ _ r1]; rfl
 rw [hsz] at T0
 clear hW r1 r2 kb
 go_wp2_with fail
 with_reducible refine (CK.out _).mono ?_
 rintro e w1 ⟨rfl, k1⟩
 have T1 := Lib.hid (T0.out.next k1)
 have r2 := T1.out.2.2
 have d0 : w1.cell? ⟨sz + 1, 0, none⟩ = some (.int .i64 0) := by rw [cell_of_row _ _ _ _ _ _ r2]; rfl
 have d1 : w1.cell? ⟨sz + 1, 1, none⟩ = some (.int .i64 0) := by rw [cell_of_row _ _ _ _ _ _ r2]; rfl
 have qf : ∀ j, w1.frozen? ⟨sz + 1, j, none⟩ = false := fun j => frozen_of_row w1 _ j _ _ r2
 have qn : Hid (sz + 1 ≥ W.heap.size ∧ (w1.heap[sz + 1]? = some (.cells #[.int .i64 0, .int .i64 0] 33 (0, 0)))) := Lib.hid ⟨by omega, r2⟩
 clear c0 c1 c2 k1 r2
 go_wp2_with fail
 obtain ⟨qn1, qn2⟩ := qn.out
 have KB : Below W.heap.size W ((w1.setCell ⟨sz + 1, 0, none⟩ (.int .i64 0)).setCell ⟨sz + 1, 1, none⟩ (.int .i64 0)) := (T1.out.base.setCell qn1 _).setCell qn1 _
 have r4 : (w1.setCell ⟨sz + 1, 0, none⟩ (.int .i64 0)).heap[sz + 1]? = some (.cells #[.int .i64 0, .int .i64 0] 33 (0, 0)) := by rw [heap_setCell_same w1 (sz + 1) 0 _ _ _ qn2]; rfl
 have r5 : ((w1.setCell ⟨sz + 1, 0, none⟩ (.int .i64 0)).setCell ⟨sz + 1, 1, none⟩ (.int .i64 0)).heap[sz + 1]? = some (.cells #[.int .i64 0, .int .i64 0] 33 (0, 0)) := by rw [heap_setCell_same _ (sz + 1) 1 _ _ _ r4]; rfl
 generalize World.setCell (World.setCell _ _ _) _ _ = W5 at r5 KB ⊢
 have q0 : W5.cell? ⟨sz + 1, 0, none⟩ = some (.int .i64 0) := by rw [cell_of_row _ _ _ _ _ _ r5]; rfl
 have q1 : W5.cell? ⟨sz + 1, 1, none⟩ = some (.int .i64 0) := by rw [cell_of_row _ _ _ _ _ _ r5]; rfl
 exact bodyPost_ret (v := .tuple #[.agg #[.int .i64 0, .int .i64 0], .int .i64 1]) (by simp [results, Tryz.results13, go_sem, q0, q1]) rfl ⟨rfl, KB⟩
set_option maxRecDepth 100000 in
set_option maxHeartbeats 6400000 in
theorem dhead_any {w W : World} {wr : Option (Nat × Bits)} {rd : Option (Nat × ByteArray × Nat)} {rb : Nat} {aB : Option Addr} {dB : Nat} {B : Bits} {p : Nat} {K : List (Nat × Obj)} (h : DRd w wr rd rb aB dB B p K W) (pr : Pr) (hp : pr.ok) :
  Calls Tryz.prog 13 #[.pointer (some ⟨rb, 0, none⟩), parV (pr.win : Int) (pr.itv : Int) (pr.zet : Int)] W fun e w' => e = .returned (hrV (hread pr.win B p)) ∧ DRd w wr rd rb aB dB B (hrA p (hread pr.win B p)) K w' := by
 have HB6 := Lib.hid h.2.2.1
 have hpB := h.2.2.2.1
 have hB9 := h.2.2.2.2.2.1
 obtain ⟨win, itv, zet⟩ := pr
 obtain ⟨hp1, hp2, hp3⟩ := hp
 dsimp only at hp1 hp2 hp3 ⊢
 have CK : Hid (∀ W, Calls Tryz.prog 47 #[.agg #[.int .i64 (win : Int), .int .i64 (itv : Int), .int .i64 (zet : Int)]] W fun e w' => e = .returned (.int .i64 0) ∧ Below W.heap.size W w') := Lib.hid (fun W => by
  have h := dcheck_any (win : Int) (itv : Int) (zet : Int) W
  rw [if_pos (show ParOk (win : Int) (itv : Int) (zet : Int) from ⟨by omega, by omega, by omega, by omega, by omega⟩)] at h
  exact h)
 have h9 := (h.add #[.int .i64 (win : Int), .int .i64 (itv : Int), .int .i64 (zet : Int)] 36).add #[.int .i64 0, .int .i64 0] 33
 rw [show (W.alloc (.cells #[.int .i64 (win : Int), .int .i64 (itv : Int), .int .i64 (zet : Int)] 36)).heap.size = W.heap.size + 1 by simp] at h9
 have hKlt : ∀ q ∈ K, q.1 < W.heap.size := fun q hq => lt_of_block (h.1.row (b := q.1) (o := q.2) (List.mem_cons_of_mem _ hq))
 obtain ⟨sz, hsz⟩ : ∃ z, W.heap.size = z := ⟨_, rfl⟩
 rw [hsz] at h9 hKlt
 obtain ⟨K1, hK1⟩ : ∃ K', (sz, Obj.cells #[.int .i64 (win : Int), .int .i64 (itv : Int), .int .i64 (zet : Int)] 36 (0, 0)) :: K = K' := ⟨_, rfl⟩
 rw [hK1] at h9
 have HN1 : Hid (∀ q ∈ K1, q.1 ≠ sz + 1) := Lib.hid (fun q hq => by
  rw [← hK1] at hq
  rcases List.mem_cons.1 hq with rfl | hq
  ·show sz ≠ sz + 1
   omega
  ·have := hKlt q hq
   omega)
 have HB1 : Hid (BSt K1 aB B) := Lib.hid (HB6.out.more (fun q hq => by rw [← hK1]; exact List.mem_cons_of_mem _ hq))
 have HK : Hid (∀ q ∈ K, q ∈ K1) := Lib.hid (fun q hq => by rw [← hK1]; exact List.mem_cons_of_mem _ hq)
 have H0 := Lib.hid h9
 have C1 : Hid (∀ W' p' K', (∀ q ∈ K1, q ∈ K') → DRd w wr rd rb aB dB B p' K' W' → W'.cell? ⟨sz, 0, none⟩ = some (.int .i64 (win : Int)) ∧ W'.cell? ⟨sz, 1, none⟩ = some (.int .i64 (itv : Int)) ∧ W'.cell? ⟨sz, 2, none⟩ = some (.int .i64 (zet : Int)) ∧ W'.cell? ⟨rb, 1, none⟩ = some (.int .i64 (p' : Int)) ∧ W'.frozen? ⟨rb, 1, none⟩ = false) := Lib.hid (fun W' p' K' hk h => by
  have r : W'.heap[sz]? = some (.cells #[.int .i64 (win : Int), .int .i64 (itv : Int), .int .i64 (zet : Int)] 36 (0, 0)) := h.1.row (List.mem_cons_of_mem _ (hk _ (by rw [← hK1]; exact List.mem_cons_self ..)))
  exact ⟨by rw [cell_of_row _ _ _ _ _ _ r]; rfl, by rw [cell_of_row _ _ _ _ _ _ r]; rfl, by rw [cell_of_row _ _ _ _ _ _ r]; rfl, h.cells.2.1, h.cells.2.2⟩)
 have C2 : Hid (∀ W' p' K', ((sz + 1, Obj.cells #[.int .i64 0, .int .i64 0] 33 (0, 0)) ∈ K') → DRd w wr rd rb aB dB B p' K' W' → W'.cell? ⟨sz + 1, 0, none⟩ = some (.int .i64 0) ∧ W'.cell? ⟨sz + 1, 1, none⟩ = some (.int .i64 0) ∧ ∀ j, W'.frozen? ⟨sz + 1, j, none⟩ = false) := Lib.hid (fun W' p' K' hk h => by
  have r := h.1.row (List.mem_cons_of_mem _ hk)
  exact ⟨by rw [cell_of_row _ _ _ _ _ _ r]; rfl, by rw [cell_of_row _ _ _ _ _ _ r]; rfl, fun j => frozen_of_row W' _ j _ _ r⟩)
 have FIN : Hid (∀ W' p' (a b : Value), DRd w wr rd rb aB dB B p' ((sz + 1, Obj.cells #[.int .i64 0, .int .i64 0] 33 (0, 0)) :: K1) W' → DRd w wr rd rb aB dB B p' K ((W'.setCell ⟨sz + 1, 0, none⟩ a).setCell ⟨sz + 1, 1, none⟩ b) ∧ ((W'.setCell ⟨sz + 1, 0, none⟩ a).setCell ⟨sz + 1, 1, none⟩ b).cell? ⟨sz + 1, 0, none⟩ = some a ∧ ((W'.setCell ⟨sz + 1, 0, none⟩ a).setCell ⟨sz + 1, 1, none⟩ b).cell? ⟨sz + 1, 1, none⟩ = some b) := Lib.hid (fun W' p' a b h => by
  have h2 := (h.poke (j := 0) a HN1.out HB1.out).poke (j := 1) b HN1.out HB1.out
  have r := h2.1.row (List.mem_cons_of_mem _ (List.mem_cons_self ..))
  exact ⟨h2.less (fun q hq => List.mem_cons_of_mem _ (HK.out q hq)) HB6.out, by rw [cell_of_row _ _ _ _ _ _ r]; rfl, by rw [cell_of_row _ _ _ _ _ _ r]; rfl⟩)
 have RG := Lib.hid (fun W' p' K' (h : DRd w wr rd rb aB dB B p' K' W') => h.read .gam trivial)
 have RU := Lib.hid (fun W' p' K' (h : DRd w wr rd rb aB dB B p' K' W') => h.read .una trivial)
 unfold cdV at RG RU
 have HG := Lib.hid (fun v n a' (h : ls.rd .gam (B.drop a') = some (v, n)) => rd_bound .gam trivial h)
 have HU := Lib.hid (fun v n a' (h : ls.rd .una (B.drop a') = some (v, n)) => rd_bound .una trivial h)
 obtain ⟨A, hA⟩ : ∃ A, hread win B p = A := ⟨_, rfl⟩
 have HA : Hid (A = (ls.rd .gam (B.drop p)).bind fun q => if 0 < q.1 ∧ 0 < win then (ls.rd .una (B.drop (p + q.2))).bind fun q2 => if q.1 ≤ 65536 ∧ q2.1 ≤ win then some (q.1, q2.1, p + q.2 + q2.2) else none
  else if q.1 ≤ 65536 then some (q.1, 0, p + q.2) else none) := Lib.hid (by rw [← hA]; rfl)
 rw [hA]
 unfold parV
 clear h h9 hA hKlt hK1
 go_enter Tryz.func13, Tryz.ntmps13
 go_upto_region 1 with fail
 generalize World.alloc (World.alloc W _) _ = W0 at H0 ⊢
 have m6 : ¬ (sz + 1 = rb) := H0.out.2.1 (sz + 1, _) (List.mem_cons_self ..)
 have m7 : ¬ (rb = sz + 1) := fun e => m6 e.symm
 obtain ⟨c0, c1, c2, c3, -⟩ := C1.out _ _ _ (fun q hq => List.mem_cons_of_mem _ hq) H0.out
 go_wp2_with fail
 with_reducible refine (CK.out _).mono ?_
 rintro e w1 ⟨rfl, k1⟩
 have H1 := Lib.hid (H0.out.next k1)
 clear c0 c1 c2 c3 k1 H0
 obtain ⟨c0, -, -, c3, -⟩ := C1.out _ _ _ (fun q hq => List.mem_cons_of_mem _ hq) H1.out
 have R1 := Lib.hid (RG.out _ _ _ H1.out)
 go_wp2_with fail
 with_reducible refine R1.out.mono ?_
 rintro e w2 ⟨hr1, hr2⟩
 clear c0 c3 R1
 obtain ⟨o1, ho1⟩ : ∃ o, ls.rd .gam (B.drop p) = o := ⟨_, rfl⟩
 rw [ho1] at hr1 hr2 HA
 cases o1 with
 | none =>
  obtain ⟨rfl, h2⟩ := hr2 rfl
  have AN : Hid (A = none) := Lib.hid HA.out
  have h3 := h2.add #[.int .i64 0, .int .i64 0] 33
  have hb1 : sz + 1 < w2.heap.size := lt_of_block (h2.1.row (b := sz + 1) (List.mem_cons_of_mem _ (List.mem_cons_self ..)))
  have hKlt2 : ∀ q ∈ K1, q.1 < w2.heap.size := fun q hq => lt_of_block (h2.1.row (b := q.1) (o := q.2) (List.mem_cons_of_mem _ (List.mem_cons_of_mem _ hq)))
  obtain ⟨hb, hhb⟩ : ∃ z, w2.heap.size = z := ⟨_, rfl⟩
  rw [hhb] at h3 hb1 hKlt2
  have HN3 : Hid (∀ q ∈ (sz + 1, Obj.cells #[.int .i64 0, .int .i64 0] 33 (0, 0)) :: K1, q.1 ≠ hb) := Lib.hid (fun q hq => by
   rcases List.mem_cons.1 hq with rfl | hq
   ·show sz + 1 ≠ hb
    omega
   ·have := hKlt2 q hq
    omega)
  have m1 : ¬ (sz + 1 = hb) := by omega
  have m2 : ¬ (hb = sz + 1) := by omega
  have m3 : ¬ (sz = hb) := by omega
  have m4 : ¬ (hb = rb) := h3.2.1 (hb, _) (List.mem_cons_self ..)
  have m5 : ¬ (rb = hb) := fun e => m4 e.symm
  clear hr1 hr2 h2 ho1 hb1 hKlt2
  go_upto_region 6 with fail
  generalize World.alloc w2 _ = w3 at h3 ⊢
  have D3 := Lib.hid h3
  obtain ⟨c0, -, -, c3, c4⟩ := C1.out _ _ _ (fun q hq => List.mem_cons_of_mem _ (List.mem_cons_of_mem _ hq)) h3
  obtain ⟨d0, d1, d2⟩ := C2.out _ _ _ (List.mem_cons_of_mem _ (List.mem_cons_self ..)) h3
  have rh := h3.1.row (List.mem_cons_of_mem _ (List.mem_cons_self ..))
  have e0 : w3.cell? ⟨hb, 0, none⟩ = some (.int .i64 0) := by rw [cell_of_row _ _ _ _ _ _ rh]; rfl
  have e1 : w3.cell? ⟨hb, 1, none⟩ = some (.int .i64 0) := by rw [cell_of_row _ _ _ _ _ _ rh]; rfl
  have e2 : ∀ j, w3.frozen? ⟨hb, j, none⟩ = false := fun j => frozen_of_row w3 hb j _ _ rh
  clear h3 rh hhb
  go_wp2_with fail
  have F := FIN.out _ _ (.int .i64 0) (.int .i64 0) ((D3.out.set p hpB).less (fun q hq => List.mem_cons_of_mem _ hq) (HB1.out.more (fun q hq => List.mem_cons_of_mem _ hq)))
  generalize World.setCell (World.setCell (World.setCell _ _ _) _ _) _ _ = W5 at F ⊢
  obtain ⟨F1, q0, q1⟩ := F
  rw [AN.out]
  exact bodyPost_ret (v := hrV none) (by simp [results, Tryz.results13, go_sem, hrV, q0, q1]) rfl ⟨rfl, F1⟩
 | some q =>
  obtain ⟨v, n1⟩ := q
  obtain ⟨rfl, h2⟩ := hr1 v n1 rfl
  have hv9 : v ≤ 281474976710654 := (HG.out v n1 p ho1).1
  have wv : IntKind.i64.wrap (v : Int) = (v : Int) := IntWalk.i64_in _ (by omega)
  have hp9 := h2.2.2.2.1
  by_cases hvw : 0 < v ∧ 0 < win
  ·have AE : Hid (A = (ls.rd .una (B.drop (p + n1))).bind fun q2 => if v ≤ 65536 ∧ q2.1 ≤ win then some (v, q2.1, p + n1 + q2.2) else none) := Lib.hid (HA.out.trans (if_pos hvw))
   obtain ⟨hv0, hw0⟩ := hvw
   have i1 : decide ((0 : Int) < (v : Int)) = true := decide_eq_true (by omega)
   have i2 : decide ((0 : Int) < (win : Int)) = true := decide_eq_true (by omega)
   have h3 := h2.add #[.int .i64 (v : Int), .int .i64 0] 33
   have hb1 : sz + 1 < w2.heap.size := lt_of_block (h2.1.row (b := sz + 1) (List.mem_cons_of_mem _ (List.mem_cons_self ..)))
   have hKlt2 : ∀ q ∈ K1, q.1 < w2.heap.size := fun q hq => lt_of_block (h2.1.row (b := q.1) (o := q.2) (List.mem_cons_of_mem _ (List.mem_cons_of_mem _ hq)))
   obtain ⟨hb, hhb⟩ : ∃ z, w2.heap.size = z := ⟨_, rfl⟩
   rw [hhb] at h3 hb1 hKlt2
   have HN3 : Hid (∀ q ∈ (sz + 1, Obj.cells #[.int .i64 0, .int .i64 0] 33 (0, 0)) :: K1, q.1 ≠ hb) := Lib.hid (fun q hq => by
    rcases List.mem_cons.1 hq with rfl | hq
    ·show sz + 1 ≠ hb
     omega
    ·have := hKlt2 q hq
     omega)
   have m1 : ¬ (sz + 1 = hb) := by omega
   have m2 : ¬ (hb = sz + 1) := by omega
   have m3 : ¬ (sz = hb) := by omega
   have m4 : ¬ (hb = rb) := h3.2.1 (hb, _) (List.mem_cons_self ..)
   have m5 : ¬ (rb = hb) := fun e => m4 e.symm
   clear hr1 hr2 h2 ho1 hb1 hKlt2
   go_upto_region 6 with fail
   generalize World.alloc w2 _ = w3 at h3 ⊢
   have D3 := Lib.hid h3
   obtain ⟨c0, -, -, c3, c4⟩ := C1.out _ _ _ (fun q hq => List.mem_cons_of_mem _ (List.mem_cons_of_mem _ hq)) h3
   obtain ⟨d0, d1, d2⟩ := C2.out _ _ _ (List.mem_cons_of_mem _ (List.mem_cons_self ..)) h3
   have rh := h3.1.row (List.mem_cons_of_mem _ (List.mem_cons_self ..))
   have e0 : w3.cell? ⟨hb, 0, none⟩ = some (.int .i64 (v : Int)) := by rw [cell_of_row _ _ _ _ _ _ rh]; rfl
   have e1 : w3.cell? ⟨hb, 1, none⟩ = some (.int .i64 0) := by rw [cell_of_row _ _ _ _ _ _ rh]; rfl
   have e2 : ∀ j, w3.frozen? ⟨hb, j, none⟩ = false := fun j => frozen_of_row w3 hb j _ _ rh
   clear h3 rh hhb
   have R2 := Lib.hid (RU.out _ _ _ D3.out)
   go_wp2_with fail
   with_reducible refine R2.out.mono ?_
   rintro e w4 ⟨hr1, hr2⟩
   clear R2 c0 c3 c4 d0 d1 d2 e0 e1 e2
   obtain ⟨o2, ho2⟩ : ∃ o, ls.rd .una (B.drop (p + n1)) = o := ⟨_, rfl⟩
   rw [ho2] at hr1 hr2 AE
   cases o2 with
   | none =>
    obtain ⟨rfl, h4⟩ := hr2 rfl
    have AN : Hid (A = none) := Lib.hid AE.out
    have D4 := Lib.hid h4
    obtain ⟨c0, -, -, c3, c4⟩ := C1.out _ _ _ (fun q hq => List.mem_cons_of_mem _ (List.mem_cons_of_mem _ hq)) h4
    obtain ⟨d0, d1, d2⟩ := C2.out _ _ _ (List.mem_cons_of_mem _ (List.mem_cons_self ..)) h4
    have rh := h4.1.row (List.mem_cons_of_mem _ (List.mem_cons_self ..))
    have e0 : w4.cell? ⟨hb, 0, none⟩ = some (.int .i64 (v : Int)) := by rw [cell_of_row _ _ _ _ _ _ rh]; rfl
    have e1 : w4.cell? ⟨hb, 1, none⟩ = some (.int .i64 0) := by rw [cell_of_row _ _ _ _ _ _ rh]; rfl
    have e2 : ∀ j, w4.frozen? ⟨hb, j, none⟩ = false := fun j => frozen_of_row w4 hb j _ _ rh
    clear h4 rh hr1 hr2 ho2
    have D5 := Lib.hid (D4.out.poke (j := 1) (.int .i64 0) HN3.out (HB1.out.more (fun q hq => List.mem_cons_of_mem _ hq)))
    go_wp2_with fail
    have F := FIN.out _ _ (.int .i64 0) (.int .i64 0) ((D5.out.set p hpB).less (fun q hq => List.mem_cons_of_mem _ hq) (HB1.out.more (fun q hq => List.mem_cons_of_mem _ hq)))
    generalize World.setCell (World.setCell (World.setCell _ _ _) _ _) _ _ = W5 at F ⊢
    obtain ⟨F1, q0, q1⟩ := F
    rw [AN.out]
    exact bodyPost_ret (v := hrV none) (by simp [results, Tryz.results13, go_sem, hrV, q0, q1]) rfl ⟨rfl, F1⟩
   | some q2 =>
    obtain ⟨r, n2⟩ := q2
    obtain ⟨rfl, h4⟩ := hr1 r n2 rfl
    have hr9 : r ≤ 9223372036854775806 := Nat.le_trans (HU.out r n2 _ ho2).1 (by decide)
    have wr9 : IntKind.i64.wrap (r : Int) = (r : Int) := IntWalk.i64_in _ (by omega)
    have D4 := Lib.hid h4
    obtain ⟨c0, -, -, c3, c4⟩ := C1.out _ _ _ (fun q hq => List.mem_cons_of_mem _ (List.mem_cons_of_mem _ hq)) h4
    obtain ⟨d0, d1, d2⟩ := C2.out _ _ _ (List.mem_cons_of_mem _ (List.mem_cons_self ..)) h4
    have rh := h4.1.row (List.mem_cons_of_mem _ (List.mem_cons_self ..))
    have e0 : w4.cell? ⟨hb, 0, none⟩ = some (.int .i64 (v : Int)) := by rw [cell_of_row _ _ _ _ _ _ rh]; rfl
    have e1 : w4.cell? ⟨hb, 1, none⟩ = some (.int .i64 0) := by rw [cell_of_row _ _ _ _ _ _ rh]; rfl
    have e2 : ∀ j, w4.frozen? ⟨hb, j, none⟩ = false := fun j => frozen_of_row w4 hb j _ _ rh
    clear h4 rh hr1 hr2 ho2
    have D5 := Lib.hid (D4.out.poke (j := 1) (.int .i64 (r : Int)) HN3.out (HB1.out.more (fun q hq => List.mem_cons_of_mem _ hq)))
    by_cases hv6 : v ≤ 65536
    ·have j1 : decide ((65536 : Int) < (v : Int)) = false := decide_eq_false (by omega)
     have j1n : decide (65536 < v) = false := decide_eq_false (by omega)
     by_cases hrw : r ≤ win
     ·have AN : Hid (A = some (v, r, p + n1 + n2)) := Lib.hid (AE.out.trans (if_pos ⟨hv6, hrw⟩))
      have j2 : decide ((win : Int) < (r : Int)) = false := decide_eq_false (by omega)
      have j2n : decide (win < r) = false := decide_eq_false (by omega)
      go_wp2_with fail
      have F := FIN.out _ _ (.int .i64 (v : Int)) (.int .i64 (r : Int)) (D5.out.less (fun q hq => List.mem_cons_of_mem _ hq) (HB1.out.more (fun q hq => List.mem_cons_of_mem _ hq)))
      generalize World.setCell (World.setCell _ _ _) _ _ = W5 at F ⊢
      obtain ⟨F1, q0, q1⟩ := F
      rw [AN.out]
      exact bodyPost_ret (v := hrV (some (v, r, p + n1 + n2))) (by simp [results, Tryz.results13, go_sem, hrV, q0, q1]) rfl ⟨rfl, F1⟩
     ·have AN : Hid (A = none) := Lib.hid (AE.out.trans (if_neg (fun h => hrw h.2)))
      have j2 : decide ((win : Int) < (r : Int)) = true := decide_eq_true (by omega)
      have j2n : decide (win < r) = true := decide_eq_true (by omega)
      go_wp2_with fail
      have F := FIN.out _ _ (.int .i64 0) (.int .i64 0) ((D5.out.set p hpB).less (fun q hq => List.mem_cons_of_mem _ hq) (HB1.out.more (fun q hq => List.mem_cons_of_mem _ hq)))
      generalize World.setCell (World.setCell (World.setCell _ _ _) _ _) _ _ = W5 at F ⊢
      obtain ⟨F1, q0, q1⟩ := F
      rw [AN.out]
      exact bodyPost_ret (v := hrV none) (by simp [results, Tryz.results13, go_sem, hrV, q0, q1]) rfl ⟨rfl, F1⟩
    ·have AN : Hid (A = none) := Lib.hid (AE.out.trans (if_neg (fun h => hv6 h.1)))
     have j1 : decide ((65536 : Int) < (v : Int)) = true := decide_eq_true (by omega)
     have j1n : decide (65536 < v) = true := decide_eq_true (by omega)
     go_wp2_with fail
     have F := FIN.out _ _ (.int .i64 0) (.int .i64 0) ((D5.out.set p hpB).less (fun q hq => List.mem_cons_of_mem _ hq) (HB1.out.more (fun q hq => List.mem_cons_of_mem _ hq)))
     generalize World.setCell (World.setCell (World.setCell _ _ _) _ _) _ _ = W5 at F ⊢
     obtain ⟨F1, q0, q1⟩ := F
     rw [AN.out]
     exact bodyPost_ret (v := hrV none) (by simp [results, Tryz.results13, go_sem, hrV, q0, q1]) rfl ⟨rfl, F1⟩
  ·have AE : Hid (A = if v ≤ 65536 then some (v, 0, p + n1) else none) := Lib.hid (HA.out.trans (if_neg hvw))
   have h3 := h2.add #[.int .i64 (v : Int), .int .i64 0] 33
   have hb1 : sz + 1 < w2.heap.size := lt_of_block (h2.1.row (b := sz + 1) (List.mem_cons_of_mem _ (List.mem_cons_self ..)))
   have hKlt2 : ∀ q ∈ K1, q.1 < w2.heap.size := fun q hq => lt_of_block (h2.1.row (b := q.1) (o := q.2) (List.mem_cons_of_mem _ (List.mem_cons_of_mem _ hq)))
   obtain ⟨hb, hhb⟩ : ∃ z, w2.heap.size = z := ⟨_, rfl⟩
   rw [hhb] at h3 hb1 hKlt2
   have HN3 : Hid (∀ q ∈ (sz + 1, Obj.cells #[.int .i64 0, .int .i64 0] 33 (0, 0)) :: K1, q.1 ≠ hb) := Lib.hid (fun q hq => by
    rcases List.mem_cons.1 hq with rfl | hq
    ·show sz + 1 ≠ hb
     omega
    ·have := hKlt2 q hq
     omega)
   have m1 : ¬ (sz + 1 = hb) := by omega
   have m2 : ¬ (hb = sz + 1) := by omega
   have m3 : ¬ (sz = hb) := by omega
   have m4 : ¬ (hb = rb) := h3.2.1 (hb, _) (List.mem_cons_self ..)
   have m5 : ¬ (rb = hb) := fun e => m4 e.symm
   clear hr1 hr2 h2 ho1 hb1 hKlt2
   go_upto_region 6 with fail
   generalize World.alloc w2 _ = w3 at h3 ⊢
   have D3 := Lib.hid h3
   obtain ⟨c0, -, -, c3, c4⟩ := C1.out _ _ _ (fun q hq => List.mem_cons_of_mem _ (List.mem_cons_of_mem _ hq)) h3
   obtain ⟨d0, d1, d2⟩ := C2.out _ _ _ (List.mem_cons_of_mem _ (List.mem_cons_self ..)) h3
   have rh := h3.1.row (List.mem_cons_of_mem _ (List.mem_cons_self ..))
   have e0 : w3.cell? ⟨hb, 0, none⟩ = some (.int .i64 (v : Int)) := by rw [cell_of_row _ _ _ _ _ _ rh]; rfl
   have e1 : w3.cell? ⟨hb, 1, none⟩ = some (.int .i64 0) := by rw [cell_of_row _ _ _ _ _ _ rh]; rfl
   have e2 : ∀ j, w3.frozen? ⟨hb, j, none⟩ = false := fun j => frozen_of_row w3 hb j _ _ rh
   clear h3 rh hhb
   by_cases hv6 : v ≤ 65536
   ·have AN : Hid (A = some (v, 0, p + n1)) := Lib.hid (AE.out.trans (if_pos hv6))
    have j1 : decide ((65536 : Int) < (v : Int)) = false := decide_eq_false (by omega)
    have j1n : decide (65536 < v) = false := decide_eq_false (by omega)
    have j3 : decide ((win : Int) < 0) = false := decide_eq_false (by omega)
    by_cases hv0 : 0 < v
    ·have hw0 : win = 0 := by omega
     subst hw0
     go_wp2_with fail
     have F := FIN.out _ _ (.int .i64 (v : Int)) (.int .i64 0) (D3.out.less (fun q hq => List.mem_cons_of_mem _ hq) (HB1.out.more (fun q hq => List.mem_cons_of_mem _ hq)))
     generalize World.setCell (World.setCell _ _ _) _ _ = W5 at F ⊢
     obtain ⟨F1, q0, q1⟩ := F
     rw [AN.out]
     exact bodyPost_ret (v := hrV (some (v, 0, p + n1))) (by simp [results, Tryz.results13, go_sem, hrV, q0, q1]) rfl ⟨rfl, F1⟩
    ·have hv00 : v = 0 := by omega
     subst hv00
     go_wp2_with fail
     have F := FIN.out _ _ (.int .i64 0) (.int .i64 0) (D3.out.less (fun q hq => List.mem_cons_of_mem _ hq) (HB1.out.more (fun q hq => List.mem_cons_of_mem _ hq)))
     generalize World.setCell (World.setCell _ _ _) _ _ = W5 at F ⊢
     obtain ⟨F1, q0, q1⟩ := F
     rw [AN.out]
     exact bodyPost_ret (v := hrV (some (0, 0, p + n1))) (by simp [results, Tryz.results13, go_sem, hrV, q0, q1]) rfl ⟨rfl, F1⟩
   ·have AN : Hid (A = none) := Lib.hid (AE.out.trans (if_neg hv6))
    have j1 : decide ((65536 : Int) < (v : Int)) = true := decide_eq_true (by omega)
    have j1n : decide (65536 < v) = true := decide_eq_true (by omega)
    have hw0 : win = 0 := by omega
    subst hw0
    go_wp2_with fail
    have F := FIN.out _ _ (.int .i64 0) (.int .i64 0) ((D3.out.set p hpB).less (fun q hq => List.mem_cons_of_mem _ hq) (HB1.out.more (fun q hq => List.mem_cons_of_mem _ hq)))
    generalize World.setCell (World.setCell (World.setCell _ _ _) _ _) _ _ = W5 at F ⊢
    obtain ⟨F1, q0, q1⟩ := F
    rw [AN.out]
    exact bodyPost_ret (v := hrV none) (by simp [results, Tryz.results13, go_sem, hrV, q0, q1]) rfl ⟨rfl, F1⟩
end Go.Proofs.YtflnpcgnenhogaaGreatDoor.ls
namespace Go.Proofs.YtflnpcgnenhogaaGreatDoor.ls
open Go.RowKit Go.Proofs.YtflnpcgnenhogaaGreatDoor.own Go.Proofs.YtflnpcgnenhogaaGreatDoor.bit

section
variable {w W W' W2 : World} {wr : Option (Nat × Bits)} {T T' : List Tk} {rb : Nat} {s : ByteArray} {a a' lb : Nat} {ls gs kg ka ks kv : List (Nat × Obj)} {vg : Value} {V : List Value} {G : List (List Nat)} {va : Value} {A : List Nat} {N : Nat}
end
theorem FS.seek {w W : World} {wr : Option (Nat × Bits)} {rb a : Nat} {s : ByteArray} {ks : List (Nat × Obj)} (h : FS w wr (some (rb, s, a)) ks W) (z : Nat) (hz : z ≤ 8 * s.size) :
  Calls Tryz.prog 9 #[.pointer (some ⟨rb, 0, none⟩), .int .i64 (z : Int)] W fun e w' => e = .returned (.int .i64 0) ∧ FS w wr (some (rb, s, z)) ks w' := by
 obtain ⟨x, hf, hw, hr, hk⟩ := h
 refine (Seek_any x 5 s a z rb W (hr _ rfl) hz).mono ?_
 rintro e w' ⟨rfl, f2, hr2⟩
 exact ⟨rfl, x, hf.trans (f2.mono (fun c hc => by show c < 50; omega)), fun q e => (hw q e).frame f2 (by decide), fun q e => by cases e; exact hr2, rows_frame hk f2 (by decide)⟩
end Go.Proofs.YtflnpcgnenhogaaGreatDoor.ls
namespace Go.Proofs.YtflnpcgnenhogaaGreatDoor.ls
open Go.RowKit Go.Proofs.YtflnpcgnenhogaaGreatDoor.own Go.Proofs.YtflnpcgnenhogaaGreatDoor.bit

/-- the document's reader begins -/
theorem DRd.start {w W W2 : World} {wr : Option (Nat × Bits)} {rd : Option (Nat × ByteArray × Nat)} {ks : List (Nat × Obj)} {B : Bits} {v : Value} (h : FS w wr rd ks W) (k : Below W.heap.size W W2) (own : W2.ownsRow W.heap.size 4 1 v B.length (bls B)) (hB : B.length ≤ 4611686018427387903) :
  ∃ ka aB dB, v = .slice aB B.length dB ∧ DRd w wr rd W2.heap.size aB dB B 0 (ka ++ ks) (W2.alloc (.cells #[v, .int .i64 0] 29)) := by
 have key : ∃ (ka : List (Nat × Obj)) (aB : Option Addr) (dB : Nat), v = .slice aB B.length dB ∧ B.length ≤ dB ∧ BSt ka aB B ∧ (∀ p ∈ ka, W.heap.size ≤ p.1 ∧ W2.heap[p.1]? = some p.2) ∧ (aB = none ∧ dB = 0 ∨ ∃ g o, aB = some ⟨g, o, none⟩) := by
  rcases own.2 with ⟨rfl, h0⟩ | ⟨g, cap, cur, rfl, hbg, hg, hn, _, _, htake⟩
  ·have hl0 : B = [] := List.eq_nil_of_length_eq_zero h0
   subst hl0
   exact ⟨[], none, 0, rfl, Nat.le_refl _, (fun W _ k hk => by cases hk), (fun p hp => by cases hp), .inl ⟨rfl, rfl⟩⟩
  ·refine ⟨[(g, .cells cur 4 (0, 0))], _, cap, rfl, hn, fun W' hW' i hi => ?_, fun p hp => by rw [List.mem_singleton.1 hp]; exact ⟨hbg, hg⟩, .inr ⟨g, 0, rfl⟩⟩
   have hr := hW' _ (List.mem_singleton.2 rfl)
   refine ⟨g, 0, rfl, lt_of_block hr, ?_⟩
   have hx : (bls B)[i]? = some (.bool B[i]) := by simp [bls, hi]
   rw [← htake, List.getElem?_take_of_lt (by omega)] at hx
   rw [Nat.zero_add, cell_of_row _ _ _ _ _ _ hr, ← Array.getElem?_toList]
   exact hx
 obtain ⟨ka, aB, dB, e1, e2, e3, e4, e5⟩ := key
 have f := (h.more k e4).add #[v, .int .i64 0] 29
 refine ⟨ka, aB, dB, e1, ?_, fun q hq e => ?_, e3.more (fun q hq => List.mem_append_left _ hq), Nat.zero_le _, e2, hB, e5⟩
 ·rw [e1] at f
  rw [e1]
  exact f
 ·have := lt_of_block ((h.more k e4).row (b := q.1) (o := q.2) hq)
  omega
set_option maxRecDepth 100000 in
theorem DRd.seek {w W : World} {wr : Option (Nat × Bits)} {rd : Option (Nat × ByteArray × Nat)} {rb : Nat} {aB : Option Addr} {dB : Nat} {B : Bits} {p : Nat} {K : List (Nat × Obj)} (h : DRd w wr rd rb aB dB B p K W) (z : Nat) (hz : z ≤ B.length) :
  Calls Tryz.prog 10 #[.pointer (some ⟨rb, 0, none⟩), .int .i64 (z : Int)] W fun e w' => e = .returned (.int .i64 0) ∧ DRd w wr rd rb aB dB B z K w' := by
 obtain ⟨c0, c1, c2⟩ := h.cells
 have D := Lib.hid (h.set z hz)
 obtain ⟨n, hn⟩ : ∃ n, B.length = n := ⟨_, rfl⟩
 rw [hn] at c0 hz
 have i1 : decide ((z : Int) < 0) = false := decide_eq_false (by omega)
 have i2 : decide ((n : Int) < (z : Int)) = false := decide_eq_false (by omega)
 have i3 : decide (n < z) = false := decide_eq_false (by omega)
 clear h hn
 go_enter Tryz.func10, Tryz.ntmps10
 go_wp2_with fail
 go_ret
 exact ⟨rfl, D.out⟩
set_option maxRecDepth 100000 in
theorem DRd.seek_no {w W : World} {wr : Option (Nat × Bits)} {rd : Option (Nat × ByteArray × Nat)} {rb : Nat} {aB : Option Addr} {dB : Nat} {B : Bits} {p : Nat} {K : List (Nat × Obj)} (h : DRd w wr rd rb aB dB B p K W) (z : Int) (hz : z < 0 ∨ (B.length : Int) < z) :
  Calls Tryz.prog 10 #[.pointer (some ⟨rb, 0, none⟩), .int .i64 z] W fun e w' => e = .returned (.int .i64 1) ∧ DRd w wr rd rb aB dB B p K w' := by
 obtain ⟨c0, c1, c2⟩ := h.cells
 have D := Lib.hid h
 obtain ⟨n, hn⟩ : ∃ n, B.length = n := ⟨_, rfl⟩
 rw [hn] at c0 hz
 clear h hn
 by_cases h1 : z < 0
 ·go_enter Tryz.func10, Tryz.ntmps10
  go_wp2_with fail
  go_ret
  exact ⟨rfl, D.out⟩
 ·have h2 : (n : Int) < z := by omega
  clear hz
  go_enter Tryz.func10, Tryz.ntmps10
  go_wp2_with fail
  go_ret
  exact ⟨rfl, D.out⟩
/-- the program's Seek, where it refuses -/
theorem Seek_no (x : Nat → Nat) (c : Nat) (s : ByteArray) (a : Nat) (z : Int) (rb : Nat) (w : World) (h : RdC x c w rb s a) (hz : z < 0 ∨ ((8 * s.size : Nat) : Int) < z) :
  Calls Tryz.prog 9 #[.pointer (some ⟨rb, 0, none⟩), .int .i64 z] w fun e w' => e = .returned (.int .i64 1) ∧ w = w' := by
 obtain ⟨h0, hx, ha, hs⟩ := h
 have c0 : w.cell? ⟨rb, 0, none⟩ = some (.string s) := by rw [cell_of_row w rb _ _ _ _ h0]; rfl
 have hw1 : IntKind.i64.wrap (8 * (s.size : Int)) = 8 * (s.size : Int) := IntWalk.i64_in _ (by omega)
 clear h0
 by_cases h1 : z < 0
 ·go_enter Tryz.func9, Tryz.ntmps9
  go_wp2_with fail
  go_ret
  exact ⟨rfl, rfl⟩
 ·have h2 : 8 * (s.size : Int) < z := by omega
  clear hz
  go_enter Tryz.func9, Tryz.ntmps9
  go_wp2_with fail
  go_ret
  exact ⟨rfl, rfl⟩
end Go.Proofs.YtflnpcgnenhogaaGreatDoor.ls
namespace Go.Proofs.YtflnpcgnenhogaaGreatDoor.ls
open Go.RowKit Go.Proofs.YtflnpcgnenhogaaGreatDoor.own Go.Proofs.YtflnpcgnenhogaaGreatDoor.bit

theorem stands_of {W : World} {base : Nat} {ka : List (Nat × Obj)} {v : Value} {l : List Nat} (hk : ∀ g, v.ownBlock = some g → ∃ o, (g, o) ∈ ka) (h : W.ownsRow base 77 1 v l.length (u32V l)) (hl : l.length ≤ 1000000) (hb : ∀ x ∈ l, x < 4294967296) (hW : ∀ p ∈ ka, W.heap[p.1]? = some p.2) :
  ∃ (s : Option Addr) (d : Nat), v = .slice s l.length d ∧ l.length ≤ d ∧ Stands ka s l := by
 rcases h.2 with ⟨rfl, h0⟩ | ⟨g, cap, cur, rfl, hbg, hg, hn, _, _, htake⟩
 ·have hl0 : l = [] := List.eq_nil_of_length_eq_zero h0
  subst hl0
  exact ⟨(Option.none : Option Addr), 0, rfl, Nat.le_refl _, fun W _ => LV.nil⟩
 ·obtain ⟨o, ho⟩ := hk g rfl
  have ho2 := hW _ ho
  dsimp only at ho2
  rw [hg] at ho2
  injection ho2 with ho2
  subst ho2
  refine ⟨_, cap, rfl, hn, fun W' hW' => ⟨by omega, fun i hi => ?_⟩⟩
  have hr := hW' _ ho
  refine ⟨g, 0, rfl, lt_of_block hr, ?_, hb _ (List.getElem_mem hi)⟩
  have hx : (u32V l)[i]? = some (.int .u32 (l[i] : Int)) := by unfold u32V; rw [List.getElem?_map, List.getElem?_eq_getElem hi]; rfl
  rw [← htake, List.getElem?_take_of_lt (by omega)] at hx
  rw [Nat.zero_add, cell_of_row _ _ _ _ _ _ hr, ← Array.getElem?_toList]
  exact hx
theorem dec_end {B : Bits} {x n deg : Nat} {ref : List Nat} {r : Nat} {p : Pr} (hp : p.ok) {a : Nat} {q : List Nat × Nat} (ha : a ≤ B.length) (h : dec B x n deg ref r p a = some q) : q.2 ≤ B.length := by
 unfold dec at h
 obtain ⟨⟨c, l, z, a'⟩, h1, h⟩ := Option.bind_eq_some_iff.1 h
 have k := pars_le hp h1 ha
 split at h
 ·injection h with h
  subst h
  exact k.2.1
 ·cases h
section
variable {w : World} {pb qb dB a : Nat} {s : ByteArray} {aB : Option Addr} {B : Bits}
/-- both Seeks -/
theorem both_seek (hB : unpack (nats s) = B) (z : Int) :
  ∃ (e : Int) (a' : Nat), a' ≤ B.length ∧
   (∀ K W p, DRd w none (some (pb, s, 0)) qb aB dB B p K W → Calls Tryz.prog 9 #[.pointer (some ⟨pb, 0, none⟩), .int .i64 z] W fun en w' => en = .returned (.int .i64 e) ∧ DRd w none (some (pb, s, a')) qb aB dB B p K w') ∧
   ∀ K W rd, DRd w none rd qb aB dB B 0 K W → Calls Tryz.prog 10 #[.pointer (some ⟨qb, 0, none⟩), .int .i64 z] W fun en w' => en = .returned (.int .i64 e) ∧ DRd w none rd qb aB dB B a' K w' := by
 have hl : B.length = 8 * s.size := by rw [← hB, bits_len]
 by_cases hz : 0 ≤ z ∧ z ≤ ((8 * s.size : Nat) : Int)
 ·obtain ⟨n, rfl⟩ : ∃ n : Nat, z = (n : Int) := ⟨z.toNat, by omega⟩
  refine ⟨0, n, by omega, fun K W p h => ?_, fun K W rd h => h.seek n (by omega)⟩
  refine (FS.seek h.1 n (by omega)).mono ?_
  rintro e w' ⟨rfl, f⟩
  exact ⟨rfl, f, h.2⟩
 ·refine ⟨1, 0, Nat.zero_le _, fun K W p h => ?_, fun K W rd h => h.seek_no z (by omega)⟩
  obtain ⟨x, hf, hw, hr, hk⟩ := id h.1
  refine (Seek_no x 5 s 0 z pb W (hr _ rfl) (by omega)).mono ?_
  rintro e w' ⟨rfl, rfl⟩
  exact ⟨rfl, h⟩
/-- both heads -/
theorem both_head (hG : GL w) (hB : unpack (nats s) = B) (ha : a ≤ B.length) (win itv zet : Int) :
  ∃ (d r e : Int) (a' : Nat), a' ≤ B.length ∧
   (∀ K W p, DRd w none (some (pb, s, a)) qb aB dB B p K W → Calls Tryz.prog 11 #[.pointer (some ⟨pb, 0, none⟩), parV win itv zet] W fun en w' => en = .returned (.tuple #[.agg #[.int .i64 d, .int .i64 r], .int .i64 e]) ∧ DRd w none (some (pb, s, a')) qb aB dB B p K w') ∧
   ∀ K W rd, DRd w none rd qb aB dB B a K W → Calls Tryz.prog 13 #[.pointer (some ⟨qb, 0, none⟩), parV win itv zet] W fun en w' => en = .returned (.tuple #[.agg #[.int .i64 d, .int .i64 r], .int .i64 e]) ∧ DRd w none rd qb aB dB B a' K w' := by
 by_cases hp : ParOk win itv zet
 ·obtain ⟨h1, h2, h3, h4, h5⟩ := id hp
  obtain ⟨win, rfl⟩ : ∃ n : Nat, win = (n : Int) := ⟨win.toNat, by omega⟩
  obtain ⟨itv, rfl⟩ : ∃ n : Nat, itv = (n : Int) := ⟨itv.toNat, by omega⟩
  obtain ⟨zet, rfl⟩ : ∃ n : Nat, zet = (n : Int) := ⟨zet.toNat, by omega⟩
  have pok : (⟨win, itv, zet⟩ : Pr).ok := ⟨by show win ≤ 16; omega, by show itv = 0 ∨ 2 ≤ itv ∧ itv ≤ 64; omega, by show 1 ≤ zet; omega, by show zet ≤ 16; omega⟩
  have A := fun K W p (h : DRd w none (some (pb, s, a)) qb aB dB B p K W) => FS.head h.1 hG ⟨win, itv, zet⟩ pok
  have C := fun K W rd (h : DRd w none rd qb aB dB B a K W) => dhead_any h ⟨win, itv, zet⟩ pok
  rw [hB] at A
  dsimp only at A C
  cases ho : hread win B a with
  | none =>
   rw [ho] at A C
   refine ⟨0, 0, 4, a, ha, fun K W p h => ?_, fun K W rd h => C K W rd h⟩
   refine (A K W p h).mono ?_
   rintro e w' ⟨rfl, f⟩
   exact ⟨rfl, f, h.2⟩
  | some q =>
   have hq := hread_end ho ha
   rw [ho] at A C
   refine ⟨(q.1 : Int), (q.2.1 : Int), 0, q.2.2, hq, fun K W p h => ?_, fun K W rd h => C K W rd h⟩
   refine (A K W p h).mono ?_
   rintro e w' ⟨rfl, f⟩
   exact ⟨rfl, f, h.2⟩
 ·refine ⟨0, 0, 1, a, ha, fun K W p h => ?_, fun K W rd h => ?_⟩
  ·refine (head_no win itv zet hp pb W).mono ?_
   rintro e w' ⟨rfl, k⟩
   exact ⟨rfl, h.next k⟩
  ·refine (dhead_no win itv zet hp qb W).mono ?_
   rintro e w' ⟨rfl, k⟩
   exact ⟨rfl, h.next k⟩
/-- both Decodes -/
theorem both_dec (hG : GL w) (hB : unpack (nats s) = B) (ha : a ≤ B.length) (win itv zet X N D R : Int) (ra : Option Addr) (ref : List Nat) (rc : Nat) (hr : LV w ra ref) (hrc : ref.length ≤ rc) (g cap : Nat) (cur : Array Value) (hm : Lent ref g cap cur) :
  ∃ (l : List Nat) (e : Int) (a' : Nat), a' ≤ B.length ∧ l.length ≤ 65536 ∧ (∀ u ∈ l, u < 65536) ∧
   (∀ K W p, (g, Obj.cells cur 77 (0, 0)) ∈ K → DRd w none (some (pb, s, a)) qb aB dB B p K W → Calls Tryz.prog 16 #[.pointer (some ⟨pb, 0, none⟩), .int .i64 X, .int .i64 N, .agg #[.int .i64 D, .int .i64 R], .slice (some ⟨g, 0, none⟩) ref.length cap, parV win itv zet] W fun en w' =>
    ∃ v d kv, en = .returned (.tuple #[.slice v l.length d, .int .i64 e]) ∧ l.length ≤ d ∧ Stands kv v l ∧ DRd w none (some (pb, s, a')) qb aB dB B p (kv ++ K) w') ∧
   ∀ K W rd, DRd w none rd qb aB dB B a K W → Calls Tryz.prog 17 #[.pointer (some ⟨qb, 0, none⟩), .int .i64 X, .int .i64 N, .agg #[.int .i64 D, .int .i64 R], .slice ra ref.length rc, parV win itv zet] W fun en w' =>
    ∃ v d, en = .returned (.tuple #[.slice v l.length d, .int .i64 e]) ∧ l.length ≤ d ∧ DRR w none rd qb aB dB B a' [⟨77, .slice v l.length d, u32V l⟩] K w' := by
 by_cases ok : DecOk win itv zet X N D R ref
 ·obtain ⟨⟨h1, h2, h3, h4, h5⟩, ⟨x1, x2⟩, ⟨n1, n2⟩, ris, ⟨d1, d2⟩, r1, r2, r3⟩ := ok
  obtain ⟨win, rfl⟩ : ∃ n : Nat, win = (n : Int) := ⟨win.toNat, by omega⟩
  obtain ⟨itv, rfl⟩ : ∃ n : Nat, itv = (n : Int) := ⟨itv.toNat, by omega⟩
  obtain ⟨zet, rfl⟩ : ∃ n : Nat, zet = (n : Int) := ⟨zet.toNat, by omega⟩
  obtain ⟨X, rfl⟩ : ∃ n : Nat, X = (n : Int) := ⟨X.toNat, by omega⟩
  obtain ⟨N, rfl⟩ : ∃ n : Nat, N = (n : Int) := ⟨N.toNat, by omega⟩
  obtain ⟨D, rfl⟩ : ∃ n : Nat, D = (n : Int) := ⟨D.toNat, by omega⟩
  obtain ⟨R, rfl⟩ : ∃ n : Nat, R = (n : Int) := ⟨R.toNat, by omega⟩
  have pok : (⟨win, itv, zet⟩ : Pr).ok := ⟨by show win ≤ 16; omega, by show itv = 0 ∨ 2 ≤ itv ∧ itv ≤ 64; omega, by show 1 ≤ zet; omega, by show zet ≤ 16; omega⟩
  have hr0 : 0 < R ∨ ref = [] := by
   rcases r3 with h | h
   ·exact .inl (by omega)
   ·exact .inr h
  have A := fun K W p (hk : (g, Obj.cells cur 77 (0, 0)) ∈ K) (h : DRd w none (some (pb, s, a)) qb aB dB B p K W) => FS.decode5 h.1 hG X N D R ⟨win, itv, zet⟩ (by omega) (by omega) (by omega) (by show R ≤ win; omega) pok (some ⟨g, 0, none⟩) ref cap (by have := hm.1; omega) ris hr0 (hm.lv (h.1.row (List.mem_cons_of_mem _ hk))) (fun g' o' e _ => by
   injection e with e
   injection e with e1 e2
   subst e1
   exact .inr ⟨_, List.mem_cons_of_mem _ hk⟩)
  have C := fun K W rd (h : DRd w none rd qb aB dB B a K W) => ddec_any h X N D R ⟨win, itv, zet⟩ (by omega) (by omega) (by omega) (by show R ≤ win; omega) pok ra ref rc hrc ris hr0 (Seen.of w K hr)
  rw [hB] at A
  dsimp only at A C
  cases ho : dec B X N D ref R ⟨win, itv, zet⟩ a with
  | none =>
   rw [ho] at A C
   refine ⟨[], 4, a, ha, Nat.zero_le _, fun u hu => (by cases hu), fun K W p hk h => ?_, fun K W rd h => ?_⟩
   ·refine (A K W p hk h).mono ?_
    rintro e w' ⟨v, ec, rfl, rfl, rfl, f⟩
    exact ⟨none, 0, [], rfl, Nat.le_refl _, fun W _ => LV.nil, f, h.2⟩
   ·refine (C K W rd h).mono ?_
    rintro e w' ⟨rfl, f⟩
    exact ⟨none, 0, rfl, Nat.le_refl _, f.nil⟩
  | some q =>
   rw [ho] at A C
   obtain ⟨q1, q2, q3, q4⟩ := dec_some pok ha ho
   have hlt : ∀ u ∈ q.1, u < 65536 := fun u hu => by have := q3 u hu; omega
   have hle : q.1.length ≤ 65536 := by omega
   have hend : q.2 ≤ B.length := dec_end pok ha ho
   refine ⟨q.1, 0, q.2, hend, hle, hlt, fun K W p hk h => ?_, fun K W rd h => ?_⟩
   ·have hqb : qb < W.heap.size := lt_of_block (h.1.row (b := qb) (List.mem_cons_self ..))
    refine (A K W p hk h).mono ?_
    rintro e w' ⟨v, ec, rfl, rfl, kv, o1, o2, o3, f⟩
    obtain ⟨sv, dv, rfl, hd, hst⟩ := stands_of o2 o1 (by omega) (fun u hu => Nat.lt_trans (hlt u hu) (by decide)) (fun p hp => f.row (b := p.1) (o := p.2) (List.mem_append_left _ hp))
    refine ⟨sv, dv, kv, rfl, hd, hst, f.sub (fun p hp => ?_), fun p hp => ?_, h.2.2.1.more (fun p hp => List.mem_append_right _ hp), h.2.2.2⟩
    ·simp only [List.mem_cons, List.mem_append] at hp ⊢
     rcases hp with hp | hp | hp
     ·exact .inr (.inl hp)
     ·exact .inl hp
     ·exact .inr (.inr hp)
    ·rcases List.mem_append.1 hp with hp | hp
     ·have := o3 p hp
      omega
     ·exact h.2.1 p hp
   ·refine (C K W rd h).mono ?_
    rintro e w' ⟨v, rfl, f⟩
    obtain ⟨sv, dv, rfl, hd, -⟩ := f.lv (by omega) hlt
    exact ⟨sv, dv, rfl, hd, f⟩
 ·refine ⟨[], 1, a, ha, Nat.zero_le _, fun u hu => (by cases hu), fun K W p hk h => ?_, fun K W rd h => ?_⟩
  ·refine (decode_no win itv zet X N D R (some ⟨g, 0, none⟩) ref cap ok pb W (hm.lv (h.1.row (List.mem_cons_of_mem _ hk)))).mono ?_
   rintro e w' ⟨rfl, k⟩
   exact ⟨none, 0, [], rfl, Nat.le_refl _, fun W _ => LV.nil, h.next k⟩
  ·refine (ddecode_no win itv zet X N D R ra ref rc ok qb W (hr.below h.1.below)).mono ?_
   rintro e w' ⟨rfl, k⟩
   exact ⟨none, 0, rfl, Nat.le_refl _, (h.next k).rows.nil⟩
end
end Go.Proofs.YtflnpcgnenhogaaGreatDoor.ls
namespace Go.Proofs.YtflnpcgnenhogaaGreatDoor.ls
open Go.RowKit Go.Proofs.YtflnpcgnenhogaaGreatDoor.own Go.Proofs.YtflnpcgnenhogaaGreatDoor.bit

/-- how a list is read -/
structure Ask where
 X : Int
 N : Int
 own : Bool
 D : Int
 R : Int
 ra : Option Addr
 ref : List Nat
 rc : Nat
 win : Int
 itv : Int
 zet : Int
def Ask.cells (o : Ask) : List Value := [.int .i64 o.X, .int .i64 o.N, .bool o.own, .int .i64 o.D, .int .i64 o.R, .slice o.ra o.ref.length o.rc, .int .i64 o.win, .int .i64 o.itv, .int .i64 o.zet]
def Ask.In (o : Ask) (w : World) : Prop := LV w o.ra o.ref ∧ o.ref.length ≤ o.rc ∧ o.ref.length < 35184372088832
/-- Askeds in memory that are only read -/
def AkL (w : World) (a : Option Addr) (L : List Ask) : Prop := ∀ i (h : i < L.length), ∃ g o, a = some ⟨g, o, none⟩ ∧ g < w.heap.size ∧ (∀ k, k < 9 → w.cell? ⟨g, o + 9 * i + k, none⟩ = (L[i].cells)[k]?) ∧ L[i].In w
theorem AkL.below {w w' : World} {a : Option Addr} {L : List Ask} (h : AkL w a L) (k : Below w.heap.size w w') : AkL w' a L := fun i hi => by
 obtain ⟨g, o, h1, h2, h3, h4⟩ := h i hi
 exact ⟨g, o, h1, Nat.lt_of_lt_of_le h2 k.size, fun j hj => (World.cell?_of_block (k.block g h2)).trans (h3 j hj), h4.1.below k, h4.2⟩
def askRow (X N : Int) (own : Bool) (D R : Int) (ra : Option Addr) (rn rc : Nat) (win itv zet : Int) : Obj := .cells #[.int .i64 X, .int .i64 N, .bool own, .int .i64 D, .int .i64 R, .slice ra rn rc, .int .i64 win, .int .i64 itv, .int .i64 zet] 38 (0, 0)
theorem ask_cells {W : World} {b : Nat} {X N : Int} {own : Bool} {D R : Int} {ra : Option Addr} {rn rc : Nat} {win itv zet : Int} (h : W.heap[b]? = some (askRow X N own D R ra rn rc win itv zet)) :
  W.cell? ⟨b, 0, none⟩ = some (.int .i64 X) ∧ W.cell? ⟨b, 1, none⟩ = some (.int .i64 N) ∧ W.cell? ⟨b, 2, none⟩ = some (.bool own) ∧ W.cell? ⟨b, 3, none⟩ = some (.int .i64 D) ∧ W.cell? ⟨b, 4, none⟩ = some (.int .i64 R) ∧ W.cell? ⟨b, 5, none⟩ = some (.slice ra rn rc) ∧ W.cell? ⟨b, 6, none⟩ = some (.int .i64 win) ∧ W.cell? ⟨b, 7, none⟩ = some (.int .i64 itv) ∧ W.cell? ⟨b, 8, none⟩ = some (.int .i64 zet) := by
 unfold askRow at h
 exact ⟨by rw [cell_of_row _ _ _ _ _ _ h]; rfl, by rw [cell_of_row _ _ _ _ _ _ h]; rfl, by rw [cell_of_row _ _ _ _ _ _ h]; rfl, by rw [cell_of_row _ _ _ _ _ _ h]; rfl, by rw [cell_of_row _ _ _ _ _ _ h]; rfl, by rw [cell_of_row _ _ _ _ _ _ h]; rfl, by rw [cell_of_row _ _ _ _ _ _ h]; rfl, by rw [cell_of_row _ _ _ _ _ _ h]; rfl, by rw [cell_of_row _ _ _ _ _ _ h]; rfl⟩
theorem DRd.row2 {w W : World} {wr : Option (Nat × Bits)} {rd : Option (Nat × ByteArray × Nat)} {rb : Nat} {aB : Option Addr} {dB : Nat} {B : Bits} {p : Nat} {K : List (Nat × Obj)} (h : DRd w wr rd rb aB dB B p K W) {q : Nat × Obj} (hq : q ∈ K) : W.heap[q.1]? = some q.2 := h.1.row (b := q.1) (o := q.2) (List.mem_cons_of_mem _ hq)
theorem DRd.below {w W : World} {wr : Option (Nat × Bits)} {rd : Option (Nat × ByteArray × Nat)} {rb : Nat} {aB : Option Addr} {dB : Nat} {B : Bits} {p : Nat} {K : List (Nat × Obj)} (h : DRd w wr rd rb aB dB B p K W) : Below w.heap.size w W := h.1.below
theorem DRd.drewN {w W : World} {wr : Option (Nat × Bits)} {rd : Option (Nat × ByteArray × Nat)} {rb : Nat} {aB : Option Addr} {dB : Nat} {B : Bits} {p : Nat} {K : List (Nat × Obj)} (h : DRd w wr rd rb aB dB B p K W) (n : Nat) : DRd w wr rd rb aB dB B p K (W.drewN n) := h.next ⟨rfl, rfl, rfl, Nat.le_refl _, fun _ _ => rfl⟩
/-- blocks that are new stand beside -/
theorem DRd.more {w W W2 : World} {wr : Option (Nat × Bits)} {rd : Option (Nat × ByteArray × Nat)} {rb : Nat} {aB : Option Addr} {dB : Nat} {B : Bits} {p : Nat} {K js : List (Nat × Obj)} (h : DRd w wr rd rb aB dB B p K W) (k : Below W.heap.size W W2) (hj : ∀ p ∈ js, W.heap.size ≤ p.1 ∧ W2.heap[p.1]? = some p.2) : DRd w wr rd rb aB dB B p (js ++ K) W2 := by
 have hrb := lt_of_block h.row
 refine ⟨(h.1.more k hj).sub (fun q hq => ?_), fun q hq => ?_, h.2.2.1.more (fun q hq => List.mem_append_right _ hq), h.2.2.2⟩
 ·simp only [List.mem_cons, List.mem_append] at hq ⊢
  rcases hq with hq | hq | hq
  ·exact .inr (.inl hq)
  ·exact .inl hq
  ·exact .inr (.inr hq)
 ·rcases List.mem_append.1 hq with hq | hq
  ·have := (hj q hq).1
   omega
  ·exact h.2.1 q hq
set_option maxRecDepth 100000 in
set_option maxHeartbeats 6400000 in
theorem decs_any (w : World) (hG : GL w) (haw : ∀ W, Below w.heap.size w W → Calls Tryz.prog 20 #[] W fun e w' => e = .returned (.bool true) ∧ Below W.heap.size W w')
  (s : ByteArray) (hs : s.size ≤ 1099511627776) (z : Int) (a : Option Addr) (L : List Ask) (cap : Nat) (hL : AkL w a L) (hc0 : L.length ≤ cap) (hl0 : L.length ≤ 4611686018427387903) :
  Calls Tryz.prog 3 #[.string s, .int .i64 z, .slice a L.length cap] w fun e w' => e = .returned (.bool true) ∧ Below w.heap.size w w' := by
 obtain ⟨hc, hl⟩ : L.length ≤ cap ∧ L.length ≤ 4611686018427387903 := ⟨hc0, hl0⟩
 have G := Lib.hid hG
 have AW := Lib.hid haw
 have HL := Lib.hid hL
 have F0 := Lib.hid ((FS.start w).open s (by omega))
 have BT := Lib.hid (fun W => Bits_any s hs W)
 obtain ⟨B, hB⟩ : ∃ B, unpack (nats s) = B := ⟨_, rfl⟩
 have HB := Lib.hid hB
 have hBl : B.length ≤ 4611686018427387903 := by rw [← hB, bits_len]; omega
 rw [hB] at BT
 obtain ⟨n, hn⟩ : ∃ n, L.length = n := ⟨_, rfl⟩
 have HN := Lib.hid hn
 rw [hn] at hc hl ⊢
 clear hG haw hL hn hc0 hl0 hB
 go_enter Tryz.func3, Tryz.ntmps3
 go_wp2_with fail
 with_reducible refine F0.out.mono ?_
 rintro e w1 ⟨pb, rfl, h1⟩
 have F1 := Lib.hid h1
 clear h1 F0
 go_wp2_with fail
 with_reducible refine (BT.out _).mono ?_
 rintro e w2 ⟨v, rfl, hown, k2⟩
 obtain ⟨K0, aB, dB, rfl, hD⟩ := DRd.start F1.out k2 hown hBl
 clear hown k2 BT F1
 obtain ⟨qb, hqb⟩ : ∃ z, w2.heap.size = z := ⟨_, rfl⟩
 rw [hqb, List.append_nil] at hD
 have D0 := Lib.hid hD
 obtain ⟨nB, hnB⟩ : ∃ z, B.length = z := ⟨_, rfl⟩
 have HNB := Lib.hid hnB
 rw [hnB]
 rw [hnB] at D0
 obtain ⟨es, a1, ha1, hSP, hSD⟩ := both_seek (w := w) (pb := pb) (qb := qb) (dB := dB) (aB := aB) HB.out z
 have SD := Lib.hid hSD
 have SP := Lib.hid hSP
 have qs : (es != es) = false := by simp
 clear hD hnB hSP hSD
 go_upto_region 3 with fail
 clear hqb
 generalize World.alloc w2 _ = w3 at D0 ⊢
 have S1 := Lib.hid (SP.out _ _ _ D0.out)
 go_wp2_with fail
 with_reducible refine S1.out.mono ?_
 rintro e w4 ⟨rfl, h4⟩
 have S2 := Lib.hid (SD.out _ _ _ h4)
 clear h4 S1 SP SD D0
 go_wp2_with fail
 with_reducible refine S2.out.mono ?_
 rintro e w5 ⟨rfl, h5⟩
 have D5 := Lib.hid h5
 clear h5 S2
 go_wp2_with fail
 go_loopw [9] (fun v9 wr => ∃ (i a' : Nat), v9 = .int .i64 (i : Int) ∧ i ≤ n ∧ i ≤ 12 ∧ a' ≤ B.length ∧ DRd w none (some (pb, s, a')) qb aB dB B a' K0 wr) (fun v9 _ => n - (intOf v9).toNat)
 case atStart => exact ⟨0, a1, rfl, Nat.zero_le _, Nat.zero_le _, ha1, D5.out⟩
 case round =>
  obtain ⟨i, a', rfl, hin, hi12, haB, hD⟩ := hrel
  have D := Lib.hid hD
  have KB := Lib.hid hD.below
  clear hD D5 qs ha1
  by_cases hlt : i < n ∧ i < 12
  · --A
   obtain ⟨hlt1, hlt2⟩ := hlt
   have i1 : decide ((i : Int) < (n : Int)) = true := decide_eq_true (by omega)
   have i2 : decide ((i : Int) < (12 : Int)) = true := decide_eq_true (by omega)
   have hiL : i < L.length := by rw [HN.out]; exact hlt1
   obtain ⟨g, o, ha, hg, hcells, hIn⟩ := (HL.out.below KB.out) i hiL
   obtain ⟨O, hO⟩ : ∃ O, L[i] = O := ⟨_, rfl⟩
   have hInw : O.In w := by
    obtain ⟨_, _, _, _, _, h⟩ := HL.out i hiL
    rw [hO] at h
    exact h
   have HIN := Lib.hid hInw
   rw [hO, Nat.mul_comm] at hcells
   obtain ⟨X, N, own, DD, RR, ra, ref, rc, win, itv, zet⟩ := O
   have e0 := hcells 0 (by decide)
   have e1 := hcells 1 (by decide)
   have e2 := hcells 2 (by decide)
   have e3 := hcells 3 (by decide)
   have e4 := hcells 4 (by decide)
   have e5 := hcells 5 (by decide)
   have e6 := hcells 6 (by decide)
   have e7 := hcells 7 (by decide)
   have e8 := hcells 8 (by decide)
   unfold Ask.cells at e0 e1 e2 e3 e4 e5 e6 e7 e8
   rw [Nat.add_zero] at e0
   dsimp only at e0 e1 e2 e3 e4 e5 e6 e7 e8
   subst ha
   obtain ⟨rn, hrn⟩ : ∃ z, ref.length = z := ⟨_, rfl⟩
   have HRN := Lib.hid hrn
   rw [hrn] at e5
   clear hcells hIn hO hInw hrn
   go_upto_region 9 with fail
   obtain ⟨d, r, eh, a2, ha2, hHP, hHD⟩ := both_head (w := w) (pb := pb) (qb := qb) (dB := dB) (aB := aB) G.out HB.out haB win itv zet
   have HP := Lib.hid hHP
   have HD := Lib.hid hHD
   unfold parV at HP HD
   have OW := Lib.hid (fun W => pown_any win itv zet W)
   have HBS := Lib.hid D.out.2.2.1
   have h9 := D.out.add #[.int .i64 X, .int .i64 N, .bool own, .int .i64 DD, .int .i64 RR, .slice ra rn rc, .int .i64 win, .int .i64 itv, .int .i64 zet] 38
   obtain ⟨xb, hxb⟩ : ∃ z, wr.heap.size = z := ⟨_, rfl⟩
   rw [hxb] at h9 ⊢
   obtain ⟨K1, hK1⟩ : ∃ K', (xb, askRow X N own DD RR ra rn rc win itv zet) :: K0 = K' := ⟨_, rfl⟩
   have h9 : DRd w none (some (pb, s, a')) qb aB dB B a' ((xb, askRow X N own DD RR ra rn rc win itv zet) :: K0) _ := h9
   rw [hK1] at h9
   generalize World.alloc wr _ = w9 at h9 ⊢
   have D9 := Lib.hid h9
   have HK1 : Hid (∀ q ∈ K0, q ∈ K1) := Lib.hid (fun q hq => by rw [← hK1]; exact List.mem_cons_of_mem _ hq)
   have CC : Hid (∀ W rd p K', (∀ q ∈ K1, q ∈ K') → DRd w none rd qb aB dB B p K' W → W.cell? ⟨xb, 0, none⟩ = some (.int .i64 X) ∧ W.cell? ⟨xb, 1, none⟩ = some (.int .i64 N) ∧ W.cell? ⟨xb, 2, none⟩ = some (.bool own) ∧ W.cell? ⟨xb, 3, none⟩ = some (.int .i64 DD) ∧ W.cell? ⟨xb, 4, none⟩ = some (.int .i64 RR) ∧ W.cell? ⟨xb, 5, none⟩ = some (.slice ra rn rc) ∧ W.cell? ⟨xb, 6, none⟩ = some (.int .i64 win) ∧ W.cell? ⟨xb, 7, none⟩ = some (.int .i64 itv) ∧ W.cell? ⟨xb, 8, none⟩ = some (.int .i64 zet)) := Lib.hid (fun W rd p K' hk h => ask_cells (h.row2 (q := (xb, askRow X N own DD RR ra rn rc win itv zet)) (hk _ (by rw [← hK1]; exact List.mem_cons_self ..))))
   obtain ⟨c0, c1, c2, c3, c4, c5, c6, c7, c8⟩ := CC.out _ _ _ _ (fun q hq => hq) h9
   clear h9 hK1 hxb e0 e1 e2 e3 e4 e5 e6 e7 e8 hg KB D hHP hHD
   go_wp2_with fail
   with_reducible refine (OW.out _).mono ?_
   rintro e w10 ⟨rfl, k10⟩
   have hd10 := D9.out.next k10
   have H10 := Lib.hid (HP.out _ _ _ hd10)
   clear hd10 k10 c0 c1 c2 c3 c4 c5 c6 c7 c8 D9
   go_wp2_with fail
   with_reducible refine H10.out.mono ?_
   rintro e w11 ⟨rfl, h11⟩
   have h12 := h11.add #[.int .i64 d, .int .i64 r] 39
   obtain ⟨hb, hhb⟩ : ∃ z, w11.heap.size = z := ⟨_, rfl⟩
   rw [hhb] at h12
   clear h11 H10
   go_upto_region 10 with fail
   generalize World.alloc w11 _ = w12 at h12 ⊢
   have D12 := Lib.hid h12
   obtain ⟨c0, c1, c2, c3, c4, c5, c6, c7, c8⟩ := CC.out _ _ _ _ (fun q hq => List.mem_cons_of_mem _ hq) h12
   have H12 := Lib.hid (HD.out _ _ _ h12)
   clear h12 hhb
   go_wp2_with fail
   with_reducible refine H12.out.mono ?_
   rintro e w13 ⟨rfl, h13⟩
   have h14 := h13.add #[.int .i64 d, .int .i64 r] 33
   obtain ⟨kb, hkb⟩ : ∃ z, w13.heap.size = z := ⟨_, rfl⟩
   rw [hkb] at h14
   have hkne : ∀ q ∈ (hb, Obj.cells #[.int .i64 d, .int .i64 r] 39 (0, 0)) :: K1, q.1 ≠ kb := fun q hq => by
    have := lt_of_block (h13.row2 hq)
    omega
   clear h13 H12 D12 c0 c1 c2 c3 c4 c5 c6 c7 c8
   go_upto_region 11 with fail
   generalize World.alloc w13 _ = w14 at h14 ⊢
   have D14 := Lib.hid h14
   obtain ⟨K2, hK2⟩ : ∃ K', (hb, Obj.cells #[.int .i64 d, .int .i64 r] 39 (0, 0)) :: K1 = K' := ⟨_, rfl⟩
   rw [hK2] at D14 hkne
   have HKN := Lib.hid hkne
   have HK2 : Hid (∀ q ∈ K1, q ∈ K2) := Lib.hid (fun q hq => by rw [← hK2]; exact List.mem_cons_of_mem _ hq)
   have CH : Hid (∀ W rd p K', (∀ q ∈ K2, q ∈ K') → DRd w none rd qb aB dB B p K' W → W.cell? ⟨hb, 0, none⟩ = some (.int .i64 d) ∧ W.cell? ⟨hb, 1, none⟩ = some (.int .i64 r)) := Lib.hid (fun W rd p K' hk h => by
    have r1 : W.heap[hb]? = some (.cells #[.int .i64 d, .int .i64 r] 39 (0, 0)) := h.row2 (q := (hb, _)) (hk _ (by rw [← hK2]; exact List.mem_cons_self ..))
    exact ⟨by rw [cell_of_row _ _ _ _ _ _ r1]; rfl, by rw [cell_of_row _ _ _ _ _ _ r1]; rfl⟩)
   have CKB : Hid (∀ W rd p (x y : Int) K', DRd w none rd qb aB dB B p ((kb, Obj.cells #[.int .i64 x, .int .i64 y] 33 (0, 0)) :: K') W → W.cell? ⟨kb, 0, none⟩ = some (.int .i64 x) ∧ W.cell? ⟨kb, 1, none⟩ = some (.int .i64 y) ∧ ∀ j, W.frozen? ⟨kb, j, none⟩ = false) := Lib.hid (fun W rd p x y K' h => by
    have r1 : W.heap[kb]? = some (.cells #[.int .i64 x, .int .i64 y] 33 (0, 0)) := h.row2 (q := (kb, _)) (List.mem_cons_self ..)
    exact ⟨by rw [cell_of_row _ _ _ _ _ _ r1]; rfl, by rw [cell_of_row _ _ _ _ _ _ r1]; rfl, fun j => frozen_of_row W kb j _ _ r1⟩)
   have ATT : Hid (∀ W p K a0, DRd w none (some (pb, s, a0)) qb aB dB B p K W → Calls Tryz.prog 14 #[.pointer (some ⟨pb, 0, none⟩)] W fun e w' => e = .returned (.int .i64 (a0 : Int)) ∧ W = w') := Lib.hid (fun W p K a0 h => h.1.at_)
   obtain ⟨g0, g1⟩ := CH.out _ _ _ _ (fun q hq => List.mem_cons_of_mem _ hq) D14.out
   obtain ⟨g2, g3, -⟩ := CKB.out _ _ _ _ _ _ D14.out
   obtain ⟨-, u1, -⟩ := D14.out.cells
   have n1 : (d != d) = false := by simp
   have n2 : (r != r) = false := by simp
   have n3 : (eh != eh) = false := by simp
   have n4 : ((a2 : Int) != (a2 : Int)) = false := by simp
   clear h14 hkne hK2 hkb
   go_quiet (first
    | (go_at_call 14; with_reducible exact Calls.quiet_of_same ((ATT.out _ _ _ _ (D14.out.drewN _)).mono (fun e w' h => ⟨h.1, h.2.symm⟩)))
    | fail)
   have D15 := Lib.hid (D14.out.drewN nq)
   clear D14 g0 g1 g2 g3 u1 n1 n2 n3 n4
   generalize w14.drewN nq = w15 at D15 ⊢
   obtain ⟨-, -, c2, c3, c4, -⟩ := CC.out _ _ _ _ (fun q hq => List.mem_cons_of_mem _ (HK2.out q hq)) D15.out
   obtain ⟨g2, g3, g4⟩ := CKB.out _ _ _ _ _ _ D15.out
   go_upto_if 90 with fail
   go_cut [13] from 90 to 93 (fun v13 wc => v13 = .pointer (some ⟨kb, 0, none⟩) ∧ ∃ x y : Int, DRd w none (some (pb, s, a2)) qb aB dB B a2 ((kb, Obj.cells #[.int .i64 x, .int .i64 y] 33 (0, 0)) :: K2) wc)
   case first =>
    have BS2 : Hid (BSt K2 aB B) := Lib.hid (HBS.out.more (fun q hq => HK2.out q (HK1.out q hq)))
    cases own with
    | true =>
     go_wp2_with fail
     go_meet
     case rel => exact ⟨rfl, d, r, D15.out⟩
    | false =>
     have D16 := Lib.hid ((D15.out.poke (j := 0) (.int .i64 DD) HKN.out BS2.out).poke (j := 1) (.int .i64 RR) HKN.out BS2.out)
     go_wp2_with fail
     go_meet
     case rel => exact ⟨rfl, DD, RR, D16.out⟩
   case rest =>
   rename World => w16
   obtain ⟨rfl, x, y, hD16⟩ := hcut
   have D16 := Lib.hid hD16
   obtain ⟨K3, hK3⟩ : ∃ K', (kb, Obj.cells #[.int .i64 x, .int .i64 y] 33 (0, 0)) :: K2 = K' := ⟨_, rfl⟩
   have HK3 : Hid (∀ q ∈ K2, q ∈ K3) := Lib.hid (fun q hq => by rw [← hK3]; exact List.mem_cons_of_mem _ hq)
   have CK3 : Hid (∀ W rd p K', (∀ q ∈ K3, q ∈ K') → DRd w none rd qb aB dB B p K' W → W.cell? ⟨kb, 0, none⟩ = some (.int .i64 x) ∧ W.cell? ⟨kb, 1, none⟩ = some (.int .i64 y)) := Lib.hid (fun W rd p K' hk h => by
    have r1 : W.heap[kb]? = some (.cells #[.int .i64 x, .int .i64 y] 33 (0, 0)) := h.row2 (q := (kb, _)) (hk _ (by rw [← hK3]; exact List.mem_cons_self ..))
    exact ⟨by rw [cell_of_row _ _ _ _ _ _ r1]; rfl, by rw [cell_of_row _ _ _ _ _ _ r1]; rfl⟩)
   rw [hK3] at D16
   clear hD16 hK3 D15 c2 c3 c4 g2 g3 g4 HKN CKB
   have LE : Hid (∀ W, Below w.heap.size w W → Calls Tryz.prog 15 #[.slice ra rn rc] W (LentP ref W)) := Lib.hid (fun W k => by
    have h := lent_any W ra ref rc HIN.out.2.2 (HIN.out.1.below k)
    have e : ref.length = rn := HRN.out
    rw [e] at h
    exact h)
   obtain ⟨-, -, -, -, -, c5, -⟩ := CC.out _ _ _ _ (fun q hq => HK3.out q (HK2.out q hq)) D16.out
   go_wp2_with fail
   with_reducible refine (LE.out _ D16.out.below).mono ?_
   rintro e w17 ⟨gm, cm, cur, rfl, hgm, hrm, hLm, k17⟩
   have D17 := Lib.hid (D16.out.more (js := [(gm, .cells cur 77 (0, 0))]) k17 (fun p hp => by rw [List.mem_singleton.1 hp]; exact ⟨hgm, hrm⟩))
   have HLm := Lib.hid hLm
   obtain ⟨K4, hK4⟩ : ∃ K', [(gm, Obj.cells cur 77 (0, 0))] ++ K3 = K' := ⟨_, rfl⟩
   rw [hK4] at D17
   have HK4 : Hid (∀ q ∈ K3, q ∈ K4) := Lib.hid (fun q hq => by rw [← hK4]; exact List.mem_append_right _ hq)
   have MM : Hid ((gm, Obj.cells cur 77 (0, 0)) ∈ K4) := Lib.hid (by rw [← hK4]; exact List.mem_append_left _ (List.mem_singleton.2 rfl))
   clear hgm hrm hLm k17 hK4 c5 D16 LE
   obtain ⟨l, ed, a3, ha3, hl9, hlb, hPD, hDD⟩ := both_dec (w := w) (pb := pb) (qb := qb) (dB := dB) (aB := aB) G.out HB.out ha2 win itv zet X N x y ra ref rc HIN.out.1 HIN.out.2.1 gm cm cur HLm.out
   have e9 : ref.length = rn := HRN.out
   rw [e9] at hPD hDD ⊢
   have PD := Lib.hid (fun W p h => hPD K4 W p MM.out h)
   have DDc := Lib.hid hDD
   have HLB := Lib.hid hlb
   unfold parV at PD DDc
   clear hPD hDD hlb e9
   have CD : Hid (∀ W' rd p kv, DRd w none rd qb aB dB B p (kv ++ K4) W' → W'.cell? ⟨xb, 0, none⟩ = some (.int .i64 X) ∧ W'.cell? ⟨xb, 1, none⟩ = some (.int .i64 N) ∧ W'.cell? ⟨kb, 0, none⟩ = some (.int .i64 x) ∧ W'.cell? ⟨kb, 1, none⟩ = some (.int .i64 y) ∧ W'.cell? ⟨xb, 6, none⟩ = some (.int .i64 win) ∧ W'.cell? ⟨xb, 7, none⟩ = some (.int .i64 itv) ∧ W'.cell? ⟨xb, 8, none⟩ = some (.int .i64 zet)) := Lib.hid (fun W rd p kv h => by
    obtain ⟨c0, c1, c2, c3, c4, c5, c6, c7, c8⟩ := CC.out _ _ _ _ (fun q hq => List.mem_append_right _ (HK4.out q (HK3.out q (HK2.out q hq)))) h
    obtain ⟨d0, d1⟩ := CK3.out _ _ _ _ (fun q hq => List.mem_append_right _ (HK4.out q hq)) h
    exact ⟨c0, c1, d0, d1, c6, c7, c8⟩)
   obtain ⟨c0, c1, d0, d1, c6, c7, c8⟩ := CD.out _ _ _ [] D17.out
   go_upto_region 16 with fail
   --R16
   go_region_held3 (fun W' => W'.cell? ⟨xb, 0, none⟩ = some (.int .i64 X) ∧ W'.cell? ⟨xb, 1, none⟩ = some (.int .i64 N) ∧ W'.cell? ⟨kb, 0, none⟩ = some (.int .i64 x) ∧ W'.cell? ⟨kb, 1, none⟩ = some (.int .i64 y) ∧ W'.cell? ⟨xb, 6, none⟩ = some (.int .i64 win) ∧ W'.cell? ⟨xb, 7, none⟩ = some (.int .i64 itv) ∧ W'.cell? ⟨xb, 8, none⟩ = some (.int .i64 zet))
    (first | exact CD.out _ _ _ [] D17.out | exact CD.out _ _ _ [] D17.out.drew | exact CD.out _ _ _ [] (by assumption) | exact CD.out _ _ _ [] (DRd.drew (by assumption)) | exact CD.out _ _ _ _ (by assumption) | exact CD.out _ _ _ _ (DRd.drew (by assumption)))
    (first
     | (go_at_call 12; (with_reducible refine (OW.out _).mono ?_); rintro e w18 ⟨rfl, k5⟩; have h5 := (by first | exact D17.out.drew.next k5 | exact D17.out.next k5 : DRd w none (some (pb, s, a2)) qb aB dB B a2 K4 w18))
     | (go_at_call 16; (with_reducible refine (PD.out _ _ (by first | exact h5 | exact h5.drew)).mono ?_); rintro e w19 ⟨v, dv, kv, rfl, hdv, hst, h8⟩))
   have D19 := Lib.hid h8
   have HST := Lib.hid hst
   have H19 := Lib.hid (DDc.out _ _ _ h8)
   obtain ⟨K5, hK5⟩ : ∃ K', kv ++ K4 = K' := ⟨_, rfl⟩
   have HK5 : Hid (∀ q ∈ K4, q ∈ K5) := Lib.hid (fun q hq => by rw [← hK5]; exact List.mem_append_right _ hq)
   have HKV : Hid (∀ q ∈ kv, q ∈ K5) := Lib.hid (fun q hq => by rw [← hK5]; exact List.mem_append_left _ hq)
   clear h5 h8 hst k5 c0 c1 d0 d1 c6 c7 c8 CD PD DDc D17
   rw [hK5] at D19 H19
   clear hK5
   obtain ⟨c0, c1, c2, c3, c4, c5, c6, c7, c8⟩ := CC.out _ _ _ _ (fun q hq => HK5.out q (HK4.out q (HK3.out q (HK2.out q hq)))) D19.out
   obtain ⟨d0, d1⟩ := CK3.out _ _ _ _ (fun q hq => HK5.out q (HK4.out q hq)) D19.out
   clear c2 c3 c4
   go_wp2_with fail
   with_reducible refine H19.out.mono ?_
   rintro e w20 ⟨v2, d2, rfl, hd2, h20⟩
   have D20 := Lib.hid h20
   clear h20 H19 D19 c0 c1 c5 c6 c7 c8 d0 d1
   have MF : Hid (∀ W, Below w20.heap.size w20 W → W.cell? ⟨xb, 5, none⟩ = some (.slice ra rn rc) ∧ W.cell? ⟨qb, 1, none⟩ = some (.int .i64 (a3 : Int)) ∧ Below w20.heap.size w20 W) := Lib.hid (fun W k => by
    have hW := DRR.next D20.out k
    obtain ⟨-, -, -, -, -, c5, -⟩ := CC.out _ _ _ _ (fun q hq => HK5.out q (HK4.out q (HK3.out q (HK2.out q hq)))) hW.bare.lone
    exact ⟨c5, hW.cells.2.1, k⟩)
   have SA : Hid (∀ W, Below w20.heap.size w20 W → Calls Tryz.prog 18 #[.slice v l.length dv, .slice v2 l.length d2] W fun e w' => e = .returned (.bool true) ∧ Below W.heap.size W w') := Lib.hid (fun W k => by
    have hW := DRR.next D20.out k
    have h1 := HST.out W (fun q hq => hW.has (HKV.out q hq))
    obtain ⟨a9, c9, he, -, h2⟩ := hW.lv (by omega) HLB.out
    injection he with e1 e2 e3
    subst e1
    have h := same_any W v l dv v2 l d2 hdv hd2 h1 h2
    rw [decide_eq_true (show l = l from rfl)] at h
    exact h)
   have KE : Hid (∀ W, Below w20.heap.size w20 W → Calls Tryz.prog 19 #[.slice (some ⟨gm, 0, none⟩) rn cm, .slice ra rn rc] W fun e w' => e = .returned (.bool true) ∧ Below W.heap.size W w') := Lib.hid (fun W k => by
    have hW := DRR.next D20.out k
    have hi := hW.has (HK5.out _ MM.out)
    have h := kept_any W gm ref cm cur ra rc HLm.out hi HIN.out.2.1 (HIN.out.1.below hW.below)
    have e : ref.length = rn := HRN.out
    rw [e] at h
    exact h)
   have AT : Hid (∀ W, Below w20.heap.size w20 W → Calls Tryz.prog 14 #[.pointer (some ⟨pb, 0, none⟩)] W fun e w' => e = .returned (.int .i64 (a3 : Int)) ∧ Below W.heap.size W w') := Lib.hid (fun W k => by
    refine ((DRR.next D20.out k).1.fs.at_).mono ?_
    rintro e w' ⟨rfl, rfl⟩
    exact ⟨rfl, Below.refl _ _⟩)
   obtain ⟨ln, hln⟩ : ∃ z, l.length = z := ⟨_, rfl⟩
   rw [hln] at SA ⊢
   have n1 : (ed != ed) = false := by simp
   have n4 : ((a3 : Int) != (a3 : Int)) = false := by simp
   obtain ⟨m5, m1, -⟩ := MF.out w20 (Below.refl _ _)
   have KX := Lib.hid (fun W W' (h : Below w20.heap.size w20 W) (k : Below W.heap.size W W') => h.trans (k.mono h.size))
   have KZ := Below.refl w20.heap.size w20
   clear hln hl9 hdv hd2
   go_upto_region 18 with fail
   --R18
   go_region_held3 (fun W => W.cell? ⟨xb, 5, none⟩ = some (.slice ra rn rc) ∧ W.cell? ⟨qb, 1, none⟩ = some (.int .i64 (a3 : Int)) ∧ Below w20.heap.size w20 W)
    (first | exact MF.out _ (by assumption) | exact MF.out _ (Below.drew (by assumption)))
    (first
     | (go_at_call 18; (with_reducible refine (SA.out _ (by first | assumption | exact Below.drew (by assumption))).mono ?_); rintro e w21 ⟨rfl, k1⟩; have k7 := (by first | exact KX.out _ _ (by assumption) k1 | exact KX.out _ _ (Below.drew (by assumption)) k1 : Below w20.heap.size w20 w21))
     | (go_at_call 19; (with_reducible refine (KE.out _ (by first | assumption | exact Below.drew (by assumption))).mono ?_); rintro e w21 ⟨rfl, k1⟩; have k7 := (by first | exact KX.out _ _ (by assumption) k1 | exact KX.out _ _ (Below.drew (by assumption)) k1 : Below w20.heap.size w20 w21))
     | (go_at_call 14; (with_reducible refine (AT.out _ (by first | assumption | exact Below.drew (by assumption))).mono ?_); rintro e w21 ⟨rfl, k1⟩; have k7 := (by first | exact KX.out _ _ (by assumption) k1 | exact KX.out _ _ (Below.drew (by assumption)) k1 : Below w20.heap.size w20 w21)))
   have D21 : Hid (DRd w none (some (pb, s, a3)) qb aB dB B a3 K0 w21) := Lib.hid ((DRR.next D20.out k7).bare.lone.less (fun q hq => HK5.out q (HK4.out q (HK3.out q (HK2.out q (HK1.out q hq))))) HBS.out)
   clear k7 k1 KZ n1 n4 m5 m1 D20 MF SA KE AT
   go_wp2_with fail
   go_roundw
   case rel => exact ⟨i + 1, a3, by go_num, by omega, by omega, ha3, D21.out⟩
   case measure => simp [intOf]; omega
  ·go_upto_region 6 with fail
   go_cut [40] from 33 to 41 (fun v40 wd => v40 = .bool false ∧ wd = wr)
   case first =>
    by_cases hlt1 : i < n
    ·have i1 : decide ((i : Int) < (n : Int)) = true := decide_eq_true (by omega)
     have i2 : decide ((i : Int) < (12 : Int)) = false := decide_eq_false (by omega)
     go_wp2_with fail
     go_meet
     case rel => exact ⟨rfl, rfl⟩
    ·have i1 : decide ((i : Int) < (n : Int)) = false := decide_eq_false (by omega)
     go_wp2_with fail
     go_meet
     case rel => exact ⟨rfl, rfl⟩
   case rest =>
   obtain ⟨rfl, hwd⟩ := hcut
   subst hwd
   go_wp2_with fail
   with_reducible refine (AW.out _ KB.out).mono ?_
   rintro e w3 ⟨rfl, k3⟩
   have K3 := Lib.hid (KB.out.trans (k3.mono KB.out.size))
   clear k3
   go_wp2_with fail
   go_ret
   exact ⟨rfl, K3.out⟩
end Go.Proofs.YtflnpcgnenhogaaGreatDoor.ls
