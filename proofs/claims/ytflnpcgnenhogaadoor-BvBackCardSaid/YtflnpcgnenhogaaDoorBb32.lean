/- Own lemmas, laid together. -/
import Derived.Test.YtflnpcgnenhogaaDoorBb31
import Derived.Test.YtflnpcgnenhogaaDoorBb21
import Derived.Test.YtflnpcgnenhogaaDoorBb24
import Derived.Test.YtflnpcgnenhogaaDoorBb27
namespace Go.Proofs.YtflnpcgnenhogaaDoor.ls
open Go.RowKit Go.Proofs.YtflnpcgnenhogaaDoor.own Go.Proofs.YtflnpcgnenhogaaDoor.bit

/-- a call that takes another list, the list so far beside -/
theorem TR.call {x : Nat → Nat} {d t u : Nat} {w W : World} {rb qb a : Nat} {s : ByteArray} {bad : Bool} {ks : List (Nat × Obj)} {l : List Nat} {v : Value} (h : TR x d t u w rb qb s a bad ks l v W) {f : Nat} {args : Array Value} {P : List Nat → Nat → Bool → Prop}
  (hc : ∀ ks1, TK x d t u w rb qb s a bad ks1 W → Calls Tryd.prog f args W (ListE P x d t u w rb qb s ks1)) :
  Calls Tryd.prog f args W fun e w' => ∃ (v2 : Value) (l2 : List Nat) (a' : Nat) (bad' : Bool), e = .returned v2 ∧ P l2 a' bad' ∧ w'.ownsRow 0 60 1 v2 l2.length (u32V l2) ∧ TR x d t u w rb qb s a' bad' ks l v w' := by
 obtain ⟨h1, ks', h2, h3, h4, h5⟩ := h
 refine (hc _ h5).mono ?_
 rintro e w' ⟨v2, l2, a', bad', rfl, hp, h6⟩
 refine ⟨v2, l2, a', bad', rfl, hp, h6.1, own_same h1 (fun g hg => ?_), ks', h2, h3, h4, h6.base⟩
 obtain ⟨o, ho⟩ := h2 g hg
 have e1 := h5.1.row (b := g) (o := o) (List.mem_cons_of_mem _ (List.mem_append_left _ ho))
 have e2 := h6.base.1.row (b := g) (o := o) (List.mem_cons_of_mem _ (List.mem_append_left _ ho))
 rw [e1, e2]
theorem u32V_int (l : List Nat) : u32V l = (l.map fun n : Nat => (n : Int)).map so.U := by
 unfold u32V
 rw [List.map_map]
 rfl
theorem srt_nat (l : List Nat) : so.srt (l.map fun n : Nat => (n : Int)) = (srtN l).map fun n : Nat => (n : Int) := by
 unfold so.srt srtN
 rw [List.map_mergeSort]
 intro a _ b _
 exact decide_eq_decide.2 Int.ofNat_le.symm
theorem srtN_length (l : List Nat) : (srtN l).length = l.length := (srtN_perm l).length_eq
theorem TR.sort {x : Nat → Nat} {d t u : Nat} (hdu : d ≠ u) {w W : World} {rb qb a : Nat} {s : ByteArray} {bad : Bool} {ks : List (Nat × Obj)} {l : List Nat} {v : Value} (h : TR x d t u w rb qb s a bad ks l v W) (hl : l.length < 4611686018427387904) :
  Calls Tryd.prog 76 #[v] W fun e w' => e = .returned (.tuple #[]) ∧ TR x d t u w rb qb s a bad ks (srtN l) v w' := by
 have h1 := h.1
 have e := u32V_int l
 have hn : (l.map fun n : Nat => (n : Int)).length = l.length := List.length_map ..
 refine (so.sort_row W 0 v (l.map fun n : Nat => (n : Int)) (by rw [hn, ← e]; exact h1) (by rw [hn]; exact hl)).mono ?_
 rintro e w' ⟨rfl, h2, h3⟩
 refine ⟨rfl, h.set hdu (srtN l) ?_ h3 (.inl rfl)⟩
 rw [hn, srt_nat, ← u32V_int] at h2
 rw [srtN_length]
 exact h2
/-- what a list's taking says -/
def ParP (o : Option (List Nat × List Nat × List Nat × Nat)) (deg : Nat) (l : List Nat) (a' : Nat) (bad : Bool) : Prop :=
 l.length ≤ 200000 ∧ (∀ v ∈ l, v < 65536) ∧ (bad = true → o = none) ∧ (bad = false → (∃ c l1 z, o = some (c, l1, z, a') ∧ l = srtN (c ++ l1 ++ z)) ∨ (o = none ∧ deg < l.length))
def cop0 (B : Bits) (ref : List Nat) (r a : Nat) : Option (List Nat × Nat) := if 0 < r then copies B ref a else some ([], a)
def lng0 (B : Bits) (x deg itv : Nat) (c : List Nat) (a : Nat) : Option (List Nat × Nat) := if c.length < deg ∧ 0 < itv then longs B x (deg - c.length) itv a else some ([], a)
theorem pars_eq (B : Bits) (x deg : Nat) (ref : List Nat) (r : Nat) (p : Pr) (a : Nat) : pars B x deg ref r p a = (cop0 B ref r a).bind fun c => if deg < c.1.length then none else (lng0 B x deg p.itv c.1 c.2).bind fun l => (rsd B x p.zet (deg - c.1.length - l.1.length) none l.2).map fun z => (c.1, l.1, z.1, z.2) := rfl
/-- behind what is copied -/
def S1 (O : Option (List Nat × List Nat × List Nat × Nat)) (C0 : Option (List Nat × Nat)) (m : Nat) (c : List Nat) (a1 : Nat) (bad : Bool) : Prop := c.length ≤ m ∧ (∀ v ∈ c, v < 65536) ∧ (bad = true → O = none) ∧ (bad = false → C0 = some (c, a1))
/-- behind the rows -/
def S2 (O : Option (List Nat × List Nat × List Nat × Nat)) (C0 : Option (List Nat × Nat)) (L0 : List Nat → Nat → Option (List Nat × Nat)) (deg : Nat) (l : List Nat) (a2 : Nat) (bad : Bool) : Prop := l.length ≤ 131072 ∧ (∀ v ∈ l, v < 65536) ∧ (bad = true → O = none) ∧
 (bad = false → ∃ c l1 a1, C0 = some (c, a1) ∧ L0 c a1 = some (l1, a2) ∧ l = c ++ l1 ∧ (deg ≤ c.length → l1 = []) ∧ (c.length ≤ deg → c.length + l1.length ≤ deg))
def S3 (O : Option (List Nat × List Nat × List Nat × Nat)) (C0 : Option (List Nat × Nat)) (L0 : List Nat → Nat → Option (List Nat × Nat)) (Z0 : Nat → Nat → Option (List Nat × Nat)) (deg : Nat) (l : List Nat) (a3 : Nat) (bad : Bool) : Prop := l.length ≤ 200000 ∧ (∀ v ∈ l, v < 65536) ∧ (bad = true → O = none) ∧
 (bad = false → ∃ c l1 a1 a2 z, C0 = some (c, a1) ∧ L0 c a1 = some (l1, a2) ∧ l = c ++ l1 ++ z ∧ (c.length ≤ deg → Z0 (deg - c.length - l1.length) a2 = some (z, a3)))
def TS (S : List Nat → Nat → Bool → Prop) (x : Nat → Nat) (d t u : Nat) (w : World) (rb qb : Nat) (s : ByteArray) (ks : List (Nat × Obj)) (v : Value) (W : World) : Prop := ∃ l a bad, S l a bad ∧ TR x d t u w rb qb s a bad ks l v W
theorem S3.fin {B : Bits} {x deg : Nat} {ref : List Nat} {r : Nat} {p : Pr} {a : Nat} {l : List Nat} {a3 : Nat} {bad : Bool} (h : S3 (pars B x deg ref r p a) (cop0 B ref r a) (lng0 B x deg p.itv) (fun n a => rsd B x p.zet n none a) deg l a3 bad) : ParP (pars B x deg ref r p a) deg (srtN l) a3 bad := by
 obtain ⟨h1, h2, h3, h4⟩ := h
 refine ⟨by rw [srtN_length]; exact h1, fun v hv => h2 v ((srtN_perm l).subset hv), h3, fun hb => ?_⟩
 obtain ⟨c, l1, a1, a2, z, e1, e2, e3, e4⟩ := h4 hb
 rw [pars_eq, e1, Option.bind_some]
 by_cases hd : deg < c.length
 ·rw [if_pos hd]
  refine .inr ⟨rfl, ?_⟩
  rw [srtN_length, e3, List.length_append, List.length_append]
  omega
 ·rw [if_neg hd]
  dsimp only
  rw [e2, Option.bind_some]
  dsimp only
  have := e4 (by omega)
  dsimp only at this
  rw [this]
  exact .inl ⟨c, l1, z, rfl, by rw [e3]⟩
set_option maxRecDepth 100000 in
set_option maxHeartbeats 6400000 in
theorem list_any (x : Nat → Nat) (d t u : Nat) (hdt : d ≠ t) (hdu : d ≠ u) (htu : t ≠ u) (w : World) (hG : GL w) (hgl : GlC x d t u) (rb qb : Nat) (s : ByteArray) (a : Nat) (ks : List (Nat × Obj)) (W : World) (h : TK x d t u w rb qb s a false ks W)
  (xv deg r : Nat) (p : Pr) (hx : xv < 65536) (hd : deg ≤ 65536) (hr : r ≤ 16) (hp : p.ok) (ar : Option Addr) (ref : List Nat) (cap : Nat) (hcap : ref.length ≤ cap) (hlen : ref.length ≤ 65536) (hb : ∀ v ∈ ref, v < 65536) (hA : LV w ar ref) (hc : Apt x d t u ar ref) :
  Calls Tryd.prog 43 #[.pointer (some ⟨qb, 0, none⟩), .int .i64 (xv : Int), .agg #[.int .i64 (deg : Int), .int .i64 (r : Int)], .slice ar ref.length cap, parV (p.win : Int) (p.itv : Int) (p.zet : Int)] W (ListE (ParP (pars (unpack (nats s)) xv deg ref r p a) deg) x d t u w rb qb s ks) := by
 obtain ⟨j0, hj, hj0, hj1, hj2⟩ := info_parts Tryd.infoU32
 have HDU := Lib.hid hdu
 have h0 := (h.keep #[.int .i64 (deg : Int), .int .i64 (r : Int)] 55).keep #[.int .i64 (p.win : Int), .int .i64 (p.itv : Int), .int .i64 (p.zet : Int)] 38
 obtain ⟨sz, hsz⟩ : ∃ z, W.heap.size = z := ⟨_, rfl⟩
 have hsz2 : (W.alloc (.cells #[.int .i64 (deg : Int), .int .i64 (r : Int)] 55)).heap.size = sz + 1 := by simp [hsz]
 rw [hsz2, hsz] at h0
 obtain ⟨ks1, hks⟩ : ∃ k, (sz + 1, Obj.cells #[.int .i64 (p.win : Int), .int .i64 (p.itv : Int), .int .i64 (p.zet : Int)] 38 (0, 0)) :: (sz, Obj.cells #[.int .i64 (deg : Int), .int .i64 (r : Int)] 55 (0, 0)) :: ks = k := ⟨_, rfl⟩
 have M1 : Hid ((sz + 1, Obj.cells #[.int .i64 (p.win : Int), .int .i64 (p.itv : Int), .int .i64 (p.zet : Int)] 38 (0, 0)) ∈ ks1) := Lib.hid (by rw [← hks]; exact List.mem_cons_self ..)
 have M2 : Hid ((sz, Obj.cells #[.int .i64 (deg : Int), .int .i64 (r : Int)] 55 (0, 0)) ∈ ks1) := Lib.hid (by rw [← hks]; exact List.mem_cons_of_mem _ (List.mem_cons_self ..))
 have HS : Hid (∀ p ∈ ks, p ∈ ks1) := Lib.hid (fun p hp => by rw [← hks]; exact List.mem_cons_of_mem _ (List.mem_cons_of_mem _ hp))
 rw [hks] at h0
 obtain ⟨win, itv, zet⟩ := p
 obtain ⟨hp1, hp2, hp3⟩ := hp
 dsimp only at hp1 hp2 hp3 h0 M1 ⊢
 unfold parV
 obtain ⟨B, hB⟩ : ∃ B, unpack (nats s) = B := ⟨_, rfl⟩
 have CP : Hid (∀ W, TK x d t u w rb qb s a false ks1 W → Calls Tryd.prog 73 #[.pointer (some ⟨qb, 0, none⟩), .slice ar ref.length cap] W (ListE (CopP (copies B ref a) ref.length) x d t u w rb qb s ks1)) := Lib.hid (fun W h => by
  rw [← hB]
  exact copies_any x d t u hdt hdu htu w hG hgl rb qb s a ks1 W h ar ref cap hcap hlen hb hA hc)
 have LG : Hid (∀ (l : List Nat) (v : Value) (a1 : Nat) (W : World) (most : Nat), TR x d t u w rb qb s a1 false ks1 l v W → most ≤ 65536 → 1 ≤ itv → Calls Tryd.prog 74 #[.pointer (some ⟨qb, 0, none⟩), .int .i64 (xv : Int), .int .i64 (most : Int), .int .i64 (itv : Int)] W fun e w' => ∃ (v2 : Value) (l2 : List Nat) (a' : Nat) (bad' : Bool), e = .returned v2 ∧ CopP (longs B xv most itv a1) most l2 a' bad' ∧ w'.ownsRow 0 60 1 v2 l2.length (u32V l2) ∧ TR x d t u w rb qb s a' bad' ks1 l v w') := Lib.hid (fun l v a1 W most h hm hi => h.call (P := CopP (longs B xv most itv a1) most) (fun ks2 h2 => by
  rw [← hB]
  exact long_any x d t u hdt hdu htu w hG hgl rb qb s a1 ks2 W h2 xv most itv hx hm hi (by omega)))
 have RS : Hid (∀ (l : List Nat) (v : Value) (a1 : Nat) (W : World) (n : Nat), TR x d t u w rb qb s a1 false ks1 l v W → n ≤ 65536 → Calls Tryd.prog 75 #[.pointer (some ⟨qb, 0, none⟩), .int .i64 (xv : Int), .int .i64 (n : Int), .agg #[.int .u8 3, .int .u64 (zet : Int)]] W fun e w' => ∃ (v2 : Value) (l2 : List Nat) (a' : Nat) (bad' : Bool), e = .returned v2 ∧ CopP (rsd B xv zet n none a1) n l2 a' bad' ∧ w'.ownsRow 0 60 1 v2 l2.length (u32V l2) ∧ TR x d t u w rb qb s a' bad' ks1 l v w') := Lib.hid (fun l v a1 W n h hn => h.call (P := CopP (rsd B xv zet n none a1) n) (fun ks2 h2 => by
  rw [← hB]
  exact residuals_any x d t u hdt hdu htu w rb qb s a1 ks2 W h2 xv n zet hx hn hp3))
 rw [hB]
 have FIN := Lib.hid (fun l a3 bad (h : S3 (pars B xv deg ref r ⟨win, itv, zet⟩ a) (cop0 B ref r a) (lng0 B xv deg itv) (fun n a => rsd B xv zet n none a) deg l a3 bad) => h.fin)
 obtain ⟨O, hO⟩ : ∃ O, pars B xv deg ref r ⟨win, itv, zet⟩ a = O := ⟨_, rfl⟩
 have PE := Lib.hid (hO ▸ (pars_eq B xv deg ref r ⟨win, itv, zet⟩ a))
 rw [hO] at FIN ⊢
 obtain ⟨n0, hn0⟩ : ∃ n, ref.length = n := ⟨_, rfl⟩
 rw [hn0] at CP hcap hlen ⊢
 have hz16 : zet ≤ 16 := hp3.2
 clear hdt hdu htu h hB hO hks hp3 hn0 hb hA hc hG hgl
 go_enter Tryd.func43, Tryd.ntmps43
 go_upto_region 1 with fail
 generalize World.alloc (World.alloc W _) _ = W0 at h0 ⊢
 have HC : Hid (∀ (W : World) (l : List Nat) (v : Value) (a : Nat) (bad : Bool), TR x d t u w rb qb s a bad ks1 l v W → W.cell? ⟨sz, 0, none⟩ = some (.int .i64 (deg : Int)) ∧ W.cell? ⟨sz, 1, none⟩ = some (.int .i64 (r : Int)) ∧ W.cell? ⟨sz + 1, 1, none⟩ = some (.int .i64 (itv : Int)) ∧ W.cell? ⟨sz + 1, 2, none⟩ = some (.int .i64 (zet : Int))) := Lib.hid (fun W l v a bad h => by
  have r1 := h.re.row M1.out
  have r2 := h.re.row M2.out
  refine ⟨by rw [cell_of_row _ _ _ _ _ _ r2]; rfl, by rw [cell_of_row _ _ _ _ _ _ r2]; rfl, by rw [cell_of_row _ _ _ _ _ _ r1]; rfl, by rw [cell_of_row _ _ _ _ _ _ r1]; rfl⟩)
 have H0 := Lib.hid (TR.nil h0)
 have K0 := Lib.hid h0
 obtain ⟨c0, c1, c2, c3⟩ := HC.out _ _ _ _ _ H0.out
 obtain ⟨C0, hC0⟩ : ∃ C, cop0 B ref r a = C := ⟨_, rfl⟩
 have HC0 := Lib.hid hC0
 rw [hC0] at FIN PE
 clear h0 hsz hsz2 hC0
 go_upto_if 16 with fail
 go_cut [11] from 14 to 19 (fun v11 wc => TS (S1 O C0 n0) x d t u w rb qb s ks1 v11 wc)
 case first =>
  by_cases hr0 : 0 < r
  ·have i1 : decide ((0 : Int) < (r : Int)) = true := decide_eq_true (by omega)
   have i1n : decide (0 < r) = true := decide_eq_true hr0
   have CE : Hid (C0 = copies B ref a) := Lib.hid (by rw [← HC0.out]; exact if_pos hr0)
   have CC := Lib.hid (CP.out _ K0.out)
   have NN : Hid (copies B ref a = none → O = none) := Lib.hid (fun h => by rw [PE.out, CE.out, h]; rfl)
   clear PE FIN CP
   go_wp2_with fail
   with_reducible refine CC.out.mono ?_
   rintro e w1 ⟨v, l, a1, bd, rfl, hp, h1⟩
   have TS1 : Hid (TS (S1 O C0 n0) x d t u w rb qb s ks1 v w1) := Lib.hid ⟨l, a1, bd, ⟨hp.1, hp.2.1, fun h => NN.out (hp.2.2.1 h), fun h => by rw [CE.out]; exact hp.2.2.2 h⟩, h1⟩
   clear hp h1
   go_wp2_with fail
   go_meet
   case rel => exact TS1.out
  ·have i1 : decide ((0 : Int) < (r : Int)) = false := decide_eq_false (by omega)
   have i1n : decide (0 < r) = false := decide_eq_false hr0
   have CE : Hid (C0 = some ([], a)) := Lib.hid (by rw [← HC0.out]; exact if_neg hr0)
   go_wp2_with fail
   go_meet
   case rel => exact ⟨[], a, false, ⟨Nat.zero_le _, fun v hv => (by cases hv), fun h => (by cases h), fun _ => CE.out⟩, H0.out⟩
 case rest =>
  obtain ⟨c, a1, b1, hS1, hT1⟩ := hcut
  have HS1 := Lib.hid hS1
  have HT1 := Lib.hid hT1
  obtain ⟨sv, sc, rfl⟩ := own_shape hT1.1
  obtain ⟨n, hn⟩ : ∃ n, c.length = n := ⟨_, rfl⟩
  have HN := Lib.hid hn
  have hn6 : n ≤ n0 := hn ▸ hS1.1
  rw [hn] at HT1 ⊢
  clear c0 c1 c2 c3 hS1 hT1 hn
  obtain ⟨c0, c1, c2, c3⟩ := HC.out _ _ _ _ _ HT1.out
  obtain ⟨q0, q1, qf⟩ := HT1.out.cells
  obtain ⟨L0, hL0⟩ : ∃ L, lng0 B xv deg itv = L := ⟨_, rfl⟩
  have HL0 := Lib.hid hL0
  rw [hL0] at FIN PE
  obtain ⟨Z0, hZ0⟩ : ∃ Z, (fun n a => rsd B xv zet n none a) = Z := ⟨_, rfl⟩
  have HZ0 := Lib.hid hZ0
  rw [hZ0] at FIN
  clear hL0 hZ0 CP
  rename World => w5
  obtain ⟨bb, hbb⟩ : ∃ bb, decide (n < deg ∧ 0 < itv ∧ b1 = false) = bb := ⟨_, rfl⟩
  have HBB := Lib.hid hbb
  clear hbb
  go_upto_region 5 with fail
  go_cut [38] from 25 to 37 (fun v38 wd => v38 = .bool bb ∧ wd = w5)
  case first =>
   clear FIN PE LG RS
   by_cases hd0 : n < deg
   ·have i1 : decide ((0 : Int) < (deg : Int) - (n : Int)) = true := decide_eq_true (by omega)
    by_cases hi0 : 0 < itv
    ·have i2 : decide ((0 : Int) < (itv : Int)) = true := decide_eq_true (by omega)
     have i2n : decide (0 < itv) = true := decide_eq_true hi0
     cases b1 with
     | true =>
      obtain rfl : bb = false := by rw [← HBB.out]; exact decide_eq_false (fun h => by cases h.2.2)
      go_wp2_with fail
      go_meet
      case rel => exact ⟨rfl, rfl⟩
     | false =>
      obtain rfl : bb = true := by rw [← HBB.out]; exact decide_eq_true ⟨hd0, hi0, rfl⟩
      go_wp2_with fail
      go_meet
      case rel => exact ⟨rfl, rfl⟩
    ·have i2 : decide ((0 : Int) < (itv : Int)) = false := decide_eq_false (by omega)
     have i2n : decide (0 < itv) = false := decide_eq_false hi0
     obtain rfl : bb = false := by rw [← HBB.out]; exact decide_eq_false (fun h => hi0 h.2.1)
     go_wp2_with fail
     go_meet
     case rel => exact ⟨rfl, rfl⟩
   ·have i1 : decide ((0 : Int) < (deg : Int) - (n : Int)) = false := decide_eq_false (by omega)
    obtain rfl : bb = false := by rw [← HBB.out]; exact decide_eq_false (fun h => hd0 h.1)
    go_wp2_with fail
    go_meet
    case rel => exact ⟨rfl, rfl⟩
  case rest =>
  obtain ⟨rfl, hwd⟩ := hcut
  subst hwd
  rename World => w6
  go_upto_if 38 with fail
  go_cut [11] from 12 to 46 (fun v11 wc => TS (S2 O C0 L0 deg) x d t u w rb qb s ks1 v11 wc)
  case first =>
   cases bb with
   | false =>
    have SK : Hid (TS (S2 O C0 L0 deg) x d t u w rb qb s ks1 (.slice sv n sc) w6) := Lib.hid (by
     have h := of_decide_eq_false HBB.out
     refine ⟨c, a1, b1, ⟨by rw [HN.out]; omega, HS1.out.2.1, HS1.out.2.2.1, fun hb => ⟨c, [], a1, HS1.out.2.2.2 hb, ?_, by rw [List.append_nil], fun _ => rfl, fun hd => by simpa using hd⟩⟩, HT1.out⟩
     rw [← HL0.out]
     exact if_neg (fun h2 => h ⟨HN.out ▸ h2.1, h2.2, hb⟩))
    clear FIN PE LG RS
    go_wp2_with fail
    go_meet
    case rel => exact SK.out
   | true =>
    obtain ⟨hd0, hi0, rfl⟩ := of_decide_eq_true HBB.out
    obtain ⟨m, hm⟩ : ∃ m, deg - n = m := ⟨_, rfl⟩
    have HM := Lib.hid hm
    have hmI : (deg : Int) - (n : Int) = (m : Int) := by omega
    have CC := Lib.hid (LG.out _ _ _ _ m HT1.out (by omega) (by omega))
    have LE : Hid (L0 c a1 = longs B xv m itv a1) := Lib.hid (by
     rw [← HL0.out]
     unfold lng0
     rw [if_pos ⟨by rw [HN.out]; exact hd0, hi0⟩, HN.out, HM.out])
    have NN : Hid (longs B xv m itv a1 = none → O = none) := Lib.hid (fun h => by
     rw [PE.out, HS1.out.2.2.2 (by trivial), Option.bind_some]
     dsimp only
     rw [LE.out, h]
     split <;> rfl)
    clear FIN PE LG RS hm
    go_wp2_with fail
    with_reducible refine CC.out.mono ?_
    rintro e w2 ⟨v2, l2, a2, b2, rfl, hp, hrow, h2⟩
    have HP := Lib.hid hp
    have HR := Lib.hid hrow
    have H2 := Lib.hid h2
    obtain ⟨s2, d2, rfl⟩ := own_shape hrow
    obtain ⟨n2, hn2⟩ : ∃ n, l2.length = n := ⟨_, rfl⟩
    have HN2 := Lib.hid hn2
    have hn26 : n2 ≤ m := hn2 ▸ hp.1
    rw [hn2] at HR ⊢
    have C3 : Hid (n + n2 ≤ maxLen) := Lib.hid (by simp only [maxLen]; omega)
    have C4 : Hid ((n + n2) * 4 ≤ 140737488355328) := Lib.hid (by omega)
    have OWN1 := Lib.hid (HN.out ▸ H2.out.1)
    clear hp hrow h2 hn2 CC
    go_wp2_with (at_builtin; refine wpList_append_row _ rfl _ _ 29 rfl 0 0 60 j0 _ 4 Tryd.underlying29 hj hj0 hj1 hj2 rfl _ n _ rfl OWN1.out _ n2 _ rfl HR.out (u32_one l2) C3.out C4.out (Nat.zero_le _) ?_)
    intro v' w' own' hg hw
    have TS2 : Hid (TS (S2 O C0 L0 deg) x d t u w rb qb s ks1 v' w') := Lib.hid ⟨c ++ l2, a2, b2, ⟨by rw [List.length_append, HN.out, HN2.out]; omega, fun v hv => (List.mem_append.1 hv).elim (HS1.out.2.1 v) (HP.out.2.1 v), fun h => NN.out (HP.out.2.2.1 h), fun h => ⟨c, l2, a1, HS1.out.2.2.2 (by trivial), by rw [LE.out]; exact HP.out.2.2.2 h, rfl, fun h => by rw [HN.out] at h; omega, fun h => by rw [HN.out, HN2.out]; omega⟩⟩, H2.out.add HDU.out l2 n2 HN2.out (by rw [HN.out]; exact own') hg hw⟩
    clear own' hg hw
    go_wp2_with fail
    go_meet
    case rel => exact TS2.out
  case rest =>
   obtain ⟨l, a2, b2, hS2, hT2⟩ := hcut
   have HS2 := Lib.hid hS2
   have HT2 := Lib.hid hT2
   obtain ⟨s2, d2, rfl⟩ := own_shape hT2.1
   obtain ⟨n2, hn2⟩ : ∃ n, l.length = n := ⟨_, rfl⟩
   have HN2 := Lib.hid hn2
   have hn26 : n2 ≤ 131072 := hn2 ▸ hS2.1
   rw [hn2] at HT2 ⊢
   clear c0 c1 c2 c3 q0 q1 qf hS2 hT2 hn2 HBB
   obtain ⟨c0, c1, c2, c3⟩ := HC.out _ _ _ _ _ HT2.out
   obtain ⟨q0, q1, qf⟩ := HT2.out.cells
   rename World => w7
   obtain ⟨b3, hb3⟩ : ∃ bb, decide (n2 < deg ∧ b2 = false) = bb := ⟨_, rfl⟩
   have HB3 := Lib.hid hb3
   clear hb3
   go_upto_region 8 with fail
   go_cut [60] from 52 to 59 (fun v60 wd => v60 = .bool b3 ∧ wd = w7)
   case first =>
    clear FIN PE LG RS
    by_cases hd0 : n2 < deg
    ·have i1 : decide ((0 : Int) < (deg : Int) - (n2 : Int)) = true := decide_eq_true (by omega)
     cases b2 with
     | true =>
      obtain rfl : b3 = false := by rw [← HB3.out]; exact decide_eq_false (fun h => by cases h.2)
      go_wp2_with fail
      go_meet
      case rel => exact ⟨rfl, rfl⟩
     | false =>
      obtain rfl : b3 = true := by rw [← HB3.out]; exact decide_eq_true ⟨hd0, rfl⟩
      go_wp2_with fail
      go_meet
      case rel => exact ⟨rfl, rfl⟩
    ·have i1 : decide ((0 : Int) < (deg : Int) - (n2 : Int)) = false := decide_eq_false (by omega)
     obtain rfl : b3 = false := by rw [← HB3.out]; exact decide_eq_false (fun h => hd0 h.1)
     go_wp2_with fail
     go_meet
     case rel => exact ⟨rfl, rfl⟩
   case rest =>
   obtain ⟨rfl, hwd⟩ := hcut
   subst hwd
   rename World => w8
   go_upto_if 60 with fail
   go_cut [11] from 12 to 70 (fun v11 wc => TS (S3 O C0 L0 Z0 deg) x d t u w rb qb s ks1 v11 wc)
   case first =>
    cases b3 with
    | false =>
     have SK : Hid (TS (S3 O C0 L0 Z0 deg) x d t u w rb qb s ks1 (.slice s2 n2 d2) w8) := Lib.hid (by
      have h := of_decide_eq_false HB3.out
      refine ⟨l, a2, b2, ⟨by rw [HN2.out]; omega, HS2.out.2.1, HS2.out.2.2.1, fun hb => ?_⟩, HT2.out⟩
      obtain ⟨c', l1, a1', e1, e2, e3, e4, e5⟩ := HS2.out.2.2.2 hb
      refine ⟨c', l1, a1', a2, [], e1, e2, by rw [List.append_nil]; exact e3, fun hd => ?_⟩
      have h6 : ¬ n2 < deg := fun h2 => h ⟨h2, hb⟩
      have h7 : c'.length + l1.length = n2 := by rw [← HN2.out, e3, List.length_append]
      rw [← HZ0.out, show deg - c'.length - l1.length = 0 by omega]
      rfl)
     clear FIN PE LG RS
     go_wp2_with fail
     go_meet
     case rel => exact SK.out
    | true =>
     obtain ⟨hd0, rfl⟩ := of_decide_eq_true HB3.out
     obtain ⟨m, hm⟩ : ∃ m, deg - n2 = m := ⟨_, rfl⟩
     have HM := Lib.hid hm
     have hmI : (deg : Int) - (n2 : Int) = (m : Int) := by omega
     have CC := Lib.hid (RS.out _ _ _ _ m HT2.out (by omega))
     have PS : Hid (∃ c l1 a1, C0 = some (c, a1) ∧ L0 c a1 = some (l1, a2) ∧ l = c ++ l1 ∧ deg - c.length - l1.length = m) := Lib.hid (by
      obtain ⟨c', l1, a1', e1, e2, e3, e4, e5⟩ := HS2.out.2.2.2 (by trivial)
      refine ⟨c', l1, a1', e1, e2, e3, ?_⟩
      have h7 : c'.length + l1.length = n2 := by rw [← HN2.out, e3, List.length_append]
      omega)
     have NN : Hid (rsd B xv zet m none a2 = none → O = none) := Lib.hid (fun h => by
      obtain ⟨c', l1, a1', e1, e2, e3, e4⟩ := PS.out
      rw [PE.out, e1, Option.bind_some]
      dsimp only
      rw [e2, Option.bind_some]
      dsimp only
      rw [e4, h]
      split <;> rfl)
     clear FIN PE LG RS hm
     go_wp2_with fail
     with_reducible refine CC.out.mono ?_
     rintro e w9 ⟨v3, l3, a3, b3, rfl, hp, hrow, h3⟩
     have HP := Lib.hid hp
     have HR := Lib.hid hrow
     have H3 := Lib.hid h3
     obtain ⟨s3, d3, rfl⟩ := own_shape hrow
     obtain ⟨n3, hn3⟩ : ∃ n, l3.length = n := ⟨_, rfl⟩
     have HN3 := Lib.hid hn3
     have hn36 : n3 ≤ m := hn3 ▸ hp.1
     rw [hn3] at HR ⊢
     have C3 : Hid (n2 + n3 ≤ maxLen) := Lib.hid (by simp only [maxLen]; omega)
     have C4 : Hid ((n2 + n3) * 4 ≤ 140737488355328) := Lib.hid (by omega)
     have OWN1 := Lib.hid (HN2.out ▸ H3.out.1)
     clear hp hrow h3 hn3 CC
     go_wp2_with (at_builtin; refine wpList_append_row _ rfl _ _ 29 rfl 0 0 60 j0 _ 4 Tryd.underlying29 hj hj0 hj1 hj2 rfl _ n2 _ rfl OWN1.out _ n3 _ rfl HR.out (u32_one l3) C3.out C4.out (Nat.zero_le _) ?_)
     intro v' w' own' hg hw
     have TS2 : Hid (TS (S3 O C0 L0 Z0 deg) x d t u w rb qb s ks1 v' w') := Lib.hid (by
      refine ⟨l ++ l3, a3, b3, ⟨by rw [List.length_append, HN2.out, HN3.out]; omega, fun v hv => (List.mem_append.1 hv).elim (HS2.out.2.1 v) (HP.out.2.1 v), fun h => NN.out (HP.out.2.2.1 h), fun h => ?_⟩, H3.out.add HDU.out l3 n3 HN3.out (by rw [HN2.out]; exact own') hg hw⟩
      obtain ⟨c', l1, a1', e1, e2, e3, e4⟩ := PS.out
      refine ⟨c', l1, a1', a2, l3, e1, e2, by rw [e3], fun _ => ?_⟩
      rw [e4, ← HZ0.out]
      exact HP.out.2.2.2 h)
     clear own' hg hw
     go_wp2_with fail
     go_meet
     case rel => exact TS2.out
   case rest =>
    obtain ⟨l, a3, b3, hS3, hT3⟩ := hcut
    have ST := Lib.hid (hT3.sort HDU.out (by have := hS3.1; omega))
    have HO := Lib.hid (FIN.out _ _ _ hS3)
    clear hS3 hT3 FIN PE LG RS c0 c1 c2 c3 q0 q1 qf
    go_wp2_with fail
    with_reducible refine ST.out.mono ?_
    rintro e w9 ⟨rfl, h9⟩
    have H9 := Lib.hid h9
    clear h9
    go_wp2_with fail
    go_ret
    exact ListE.sub ⟨_, _, _, _, rfl, HO.out, H9.out⟩ HS.out
end Go.Proofs.YtflnpcgnenhogaaDoor.ls
namespace Go.Proofs.YtflnpcgnenhogaaDoor.ls
open Go.RowKit Go.Proofs.YtflnpcgnenhogaaDoor.own Go.Proofs.YtflnpcgnenhogaaDoor.bit

/-- there is a colour beyond all -/
theorem fresh (x : Nat → Nat) (d : Nat) : ∀ n : Nat, ∃ m, d < m ∧ ∀ b, b < n → x b < m
 | 0 => ⟨d + 1, Nat.lt_succ_self _, fun b h => (by omega)⟩
 | n + 1 => by
  obtain ⟨m, h1, h2⟩ := fresh x d n
  refine ⟨m + x n + 1, by omega, fun b hb => ?_⟩
  rcases Nat.lt_or_ge b n with h | h
  ·have := h2 b h; omega
  ·obtain rfl : b = n := by omega
   omega
/-- colours that are never turned on the way -/
def Rk (y : Nat → Nat) (d m b : Nat) : Prop := (y b < m ∧ y b ≠ d) ∨ y b = m + 4
def GS (x : Nat → Nat) (d m : Nat) (w : World) (rb : Nat) (s : ByteArray) (a : Nat) (wr : Option (Nat × Bits)) (rd : Option (Nat × ByteArray × Nat)) (ks : List (Nat × Obj)) (W : World) : Prop :=
 ∃ y, Fr x y (fun c => c = d ∨ m ≤ c) w W ∧ RdC y d W rb s a ∧ (∀ q, wr = some q → WrC y m W q.1 q.2) ∧ (∀ q, rd = some q → RdC y (m + 1) W q.1 q.2.1 q.2.2) ∧ ∀ p ∈ ks, Rk y d m p.1 ∧ W.heap[p.1]? = some p.2
section
variable {x : Nat → Nat} {d m : Nat} {w W : World} {rb a : Nat} {s : ByteArray} {wr : Option (Nat × Bits)} {rd : Option (Nat × ByteArray × Nat)} {ks : List (Nat × Obj)}
theorem GS.row (h : GS x d m w rb s a wr rd ks W) {b : Nat} {o : Obj} (hm : (b, o) ∈ ks) : W.heap[b]? = some o := by
 obtain ⟨_, _, _, _, _, hk⟩ := h
 exact (hk _ hm).2
theorem rk_frame {y y' : Nat → Nat} {C : Nat → Prop} {W W' : World} (h : ∀ p ∈ ks, Rk y d m p.1 ∧ W.heap[p.1]? = some p.2) (f : Fr y y' C W W') (hC : ∀ c, C c → c = d ∨ c = m ∨ c = m + 1 ∨ c = m + 2 ∨ c = m + 3) (hdm : d < m) : ∀ p ∈ ks, Rk y' d m p.1 ∧ W'.heap[p.1]? = some p.2 := fun p hp => by
 obtain ⟨h1, h2⟩ := h p hp
 have e := f.col _ (lt_of_block h2)
 refine ⟨?_, (f.old _ (lt_of_block h2) (fun hc => ?_)).trans h2⟩
 ·unfold Rk at h1 ⊢
  rw [e]
  exact h1
 ·have := hC _ hc
  unfold Rk at h1
  omega
theorem GS.next (hdm : d < m) (h : GS x d m w rb s a wr rd ks W) {W' : World} (k : Below W.heap.size W W') : GS x d m w rb s a wr rd ks W' := by
 obtain ⟨y, hf, hr, hw, hr2, hk⟩ := h
 have f2 : Fr y (paint y W.heap.size (m + 2)) (fun e => e = m + 2) W W' := Fr.of_below k rfl
 exact ⟨_, hf.trans (f2.mono (fun c hc => by omega)), rdc_frame hr f2 (by omega), fun q e => (hw q e).frame f2 (by omega), fun q e => rdc_frame (hr2 q e) f2 (by omega), rk_frame hk f2 (fun c hc => by omega) hdm⟩
theorem GS.add (hdm : d < m) (h : GS x d m w rb s a wr rd ks W) (row : Array Value) (T : TypeId) : GS x d m w rb s a wr rd ((W.heap.size, .cells row T (0, 0)) :: ks) (W.alloc (.cells row T)) := by
 obtain ⟨y, hf, hr, hw, hr2, hk⟩ := h
 have k : Below W.heap.size W (W.alloc (.cells row T)) := (Below.refl _ _).alloc (Nat.le_refl _) _
 have f2 : Fr y (paint y W.heap.size (m + 4)) (fun e => e = m + 4) W (W.alloc (.cells row T)) := Fr.of_below k rfl
 refine ⟨_, hf.trans (f2.mono (fun c hc => by omega)), rdc_frame hr f2 (by omega), fun q e => (hw q e).frame f2 (by omega), fun q e => rdc_frame (hr2 q e) f2 (by omega), fun p hp => ?_⟩
 rcases List.mem_cons.1 hp with rfl | hp
 ·exact ⟨.inr (paint_new (Nat.le_refl _)), heap_alloc_new W _⟩
 ·obtain ⟨h1, h2⟩ := hk p hp
  have e : paint y W.heap.size (m + 4) p.1 = y p.1 := paint_old (lt_of_block h2)
  refine ⟨?_, (k.block _ (lt_of_block h2)).trans h2⟩
  unfold Rk at h1 ⊢
  rw [e]
  exact h1
theorem GS.gl (h : GS x d m w rb s a wr rd ks W) (hG : GL w) (h0 : x 0 ≠ d ∧ x 1 ≠ d) (hm : ∀ b, b < w.heap.size → x b < m) : GL W := by
 obtain ⟨y, hf, _⟩ := h
 have l0 := World.block_lt_of_cell? _ _ hG.g0
 have l1 := World.block_lt_of_cell? _ _ hG.u0
 have k0 := hf.old 0 l0 (by rintro (e | e); exact h0.1 e; have := hm 0 l0; omega)
 have k1 := hf.old 1 l1 (by rintro (e | e); exact h0.2 e; have := hm 1 l1; omega)
 exact ⟨(World.cell?_of_block (w := w) k0).trans hG.g0, (World.cell?_of_block (w := w) k0).trans hG.g1, (World.cell?_of_block (w := w) k1).trans hG.u0, (World.cell?_of_block (w := w) k1).trans hG.u1⟩
theorem GS.lv (h : GS x d m w rb s a wr rd ks W) (hm : ∀ b, b < w.heap.size → x b < m) {al : Option Addr} {l : List Nat} (hL : LV w al l) (hc : ∀ g o, al = some ⟨g, o, none⟩ → 0 < l.length → x g ≠ d) : LV W al l := by
 obtain ⟨y, hf, _⟩ := h
 rcases Nat.eq_zero_or_pos l.length with h0 | h0
 ·obtain rfl := List.eq_nil_of_length_eq_zero h0
  exact LV.nil
 ·obtain ⟨g, o, e, hlt, _⟩ := hL.2 0 h0
  refine hL.fr hf (fun g' o' e' => ?_)
  rw [e] at e'
  injection e' with e'
  injection e' with e1 e2
  subst e1
  rintro (e3 | e3)
  ·exact hc g o e h0 e3
  ·have := hm g hlt; omega
theorem GS.at_ (h : GS x d m w rb s a wr rd ks W) : Calls Tryd.prog 24 #[.pointer (some ⟨rb, 0, none⟩)] W fun e w' => e = .returned (.int .i64 (a : Int)) ∧ W = w' := by
 obtain ⟨y, _, hr, _⟩ := h
 exact At_any y d W rb s a hr
theorem GS.oat {ob oa : Nat} {os : ByteArray} (h : GS x d m w rb s a wr (some (ob, os, oa)) ks W) : Calls Tryd.prog 24 #[.pointer (some ⟨ob, 0, none⟩)] W fun e w' => e = .returned (.int .i64 (oa : Int)) ∧ W = w' := by
 obtain ⟨y, _, _, _, hr, _⟩ := h
 exact At_any y (m + 1) W ob os oa (hr _ rfl)
theorem GS.len {wb : Nat} {l : Bits} (h : GS x d m w rb s a (some (wb, l)) rd ks W) : Calls Tryd.prog 19 #[.pointer (some ⟨wb, 0, none⟩)] W fun e w' => e = .returned (.int .i64 (l.length : Int)) ∧ W = w' := by
 obtain ⟨y, _, _, hw, _⟩ := h
 exact len_any y m W wb l (hw _ rfl)
theorem GS.text {wb : Nat} {l : Bits} (h : GS x d m w rb s a (some (wb, l)) rd ks W) : Calls Tryd.prog 13 #[.pointer (some ⟨wb, 0, none⟩)] W fun e w' => e = .returned (.tuple #[.string (txt (packN l)), .int .i64 0]) ∧ W = w' := by
 obtain ⟨y, _, _, hw, _⟩ := h
 exact text_any y m W wb l (hw _ rfl)
theorem GS.new (hdm : d < m) (h : GS x d m w rb s a none none ks W) :
  Calls Tryd.prog 7 #[] W fun e w' => ∃ wb : Nat, e = .returned (.pointer (some ⟨wb, 0, none⟩)) ∧ GS x d m w rb s a (some (wb, [])) none ks w' := by
 obtain ⟨y, hf, hr, -, -, hk⟩ := h
 refine (new_any y m W).mono ?_
 rintro e w' ⟨wb, y', rfl, f2, hw, _⟩
 exact ⟨wb, rfl, y', hf.trans (f2.mono (fun c hc => by omega)), rdc_frame hr f2 (by omega), fun q e => by cases e; exact hw, fun q e => (by cases e), rk_frame hk f2 (fun c hc => by omega) hdm⟩
theorem GS.enc (hdm : d < m) {wb : Nat} (h : GS x d m w rb s a (some (wb, [])) none ks W) (hG : GL W) (p : Pr) (xv : Nat) (al : Option Addr) (succ : List Nat) (cap : Nat) (bl : Option Addr) (ref : List Nat) (capb r : Nat) (hc : succ.length ≤ cap) (hcb : ref.length ≤ capb) (hm : MayN xv succ ref r p) (hA : LV W al succ) (hB : LV W bl ref) :
  Calls Tryd.prog 11 #[.pointer (some ⟨wb, 0, none⟩), .int .i64 (xv : Int), .slice al succ.length cap, .slice bl ref.length capb, .int .i64 (r : Int), parV (p.win : Int) (p.itv : Int) (p.zet : Int)] W fun e w' =>
   e = .returned (.int .i64 0) ∧ GS x d m w rb s a (some (wb, lay xv succ ref r p)) none ks w' := by
 obtain ⟨y, hf, hr, hw, -, hk⟩ := h
 have hl := lay_len hm
 refine (lenc_yes y m (m + 2) (m + 3) (by omega) (by omega) (by omega) p xv W hG wb [] al succ cap bl ref capb r hc hcb hm hA hB (by simp only [List.length_nil]; omega) (hw _ rfl)).mono ?_
 rintro e w' ⟨rfl, y', f2, hw2⟩
 exact ⟨rfl, y', hf.trans (f2.mono (fun c hc => by omega)), rdc_frame hr f2 (by omega), fun q e => by cases e; exact hw2, fun q e => (by cases e), rk_frame hk f2 (fun c hc => by omega) hdm⟩
theorem GS.open (hdm : d < m) (h : GS x d m w rb s a wr none ks W) (t : ByteArray) (ht : t.size ≤ 1152921504606846975) :
  Calls Tryd.prog 20 #[.string t] W fun e w' => ∃ ob : Nat, e = .returned (.pointer (some ⟨ob, 0, none⟩)) ∧ GS x d m w rb s a wr (some (ob, t, 0)) ks w' := by
 obtain ⟨y, hf, hr, hw, -, hk⟩ := h
 refine (ropen_any y (m + 1) t ht W).mono ?_
 rintro e w' ⟨ob, y', rfl, f2, hr2, _⟩
 exact ⟨ob, rfl, y', hf.trans (f2.mono (fun c hc => by omega)), rdc_frame hr f2 (by omega), fun q e => (hw q e).frame f2 (by omega), fun q e => by cases e; exact hr2, rk_frame hk f2 (fun c hc => by omega) hdm⟩
theorem GS.head (hdm : d < m) {ob oa : Nat} {os : ByteArray} (h : GS x d m w rb s a wr (some (ob, os, oa)) ks W) (hG : GL w) (h0 : x 0 ≠ d ∧ x 1 ≠ d) (hm : ∀ b, b < w.heap.size → x b < m) (p : Pr) (hp : p.ok) :
  Calls Tryd.prog 21 #[.pointer (some ⟨ob, 0, none⟩), parV (p.win : Int) (p.itv : Int) (p.zet : Int)] W fun e w' =>
   e = .returned (hrV (hread p.win (unpack (nats os)) oa)) ∧ GS x d m w rb s a wr (some (ob, os, hrA oa (hread p.win (unpack (nats os)) oa))) ks w' := by
 have hGW := h.gl hG h0 hm
 obtain ⟨y, hf, hr, hw, hr2, hk⟩ := h
 have l0 := World.block_lt_of_cell? _ _ hG.g0
 have l1 := World.block_lt_of_cell? _ _ hG.u0
 have e0 : y 0 < m := by rw [hf.col 0 l0]; exact hm 0 l0
 have e1 : y 1 < m := by rw [hf.col 1 l1]; exact hm 1 l1
 refine (head_any y (m + 1) (m + 2) (m + 3) (by omega) (by omega) (by omega) p hp W hGW (by omega) ob os oa (hr2 _ rfl)).mono ?_
 rintro e w' ⟨rfl, y', f2, hr3⟩
 exact ⟨rfl, y', hf.trans (f2.mono (fun c hc => by omega)), rdc_frame hr f2 (by omega), fun q e => (hw q e).frame f2 (by omega), fun q e => by cases e; exact hr3, rk_frame hk f2 (fun c hc => by omega) hdm⟩
theorem GS.seek (hdm : d < m) (h : GS x d m w rb s a wr rd ks W) (a0 : Nat) (ha : a0 ≤ 8 * s.size) :
  Calls Tryd.prog 40 #[.pointer (some ⟨rb, 0, none⟩), .int .i64 (a0 : Int)] W fun e w' => e = .returned (.int .i64 0) ∧ GS x d m w rb s a0 wr rd ks w' := by
 obtain ⟨y, hf, hr, hw, hr2, hk⟩ := h
 refine (Seek_any y d s a a0 rb W hr ha).mono ?_
 rintro e w' ⟨rfl, f2, h2⟩
 exact ⟨rfl, y, hf.trans (f2.mono (fun c hc => by omega)), h2, fun q e => (hw q e).frame f2 (by omega), fun q e => rdc_frame (hr2 q e) f2 (by omega), rk_frame hk f2 (fun c hc => by omega) hdm⟩
theorem GS.take (hdm : d < m) (h : GS x d m w rb s a wr rd ks W) (n : Nat) (hn : n ≤ 64) (ha : a + n ≤ 8 * s.size) :
  Calls Tryd.prog 77 #[.pointer (some ⟨rb, 0, none⟩), .int .i64 (n : Int)] W fun e w' =>
   e = .returned (.tuple #[.int .u64 ((num (((unpack (nats s)).drop a).take n) : Nat) : Int), .int .i64 0]) ∧ GS x d m w rb s (a + n) wr rd ks w' := by
 obtain ⟨y, hf, hr, hw, hr2, hk⟩ := h
 refine (Take_any y d W rb s a n hn ha hr).mono ?_
 rintro e w' ⟨rfl, y', f2, h2⟩
 exact ⟨rfl, y', hf.trans (f2.mono (fun c hc => by omega)), h2, fun q e => (hw q e).frame f2 (by omega), fun q e => rdc_frame (hr2 q e) f2 (by omega), rk_frame hk f2 (fun c hc => by omega) hdm⟩
theorem GS.otake (hdm : d < m) {ob oa : Nat} {os : ByteArray} (h : GS x d m w rb s a wr (some (ob, os, oa)) ks W) (n : Nat) (hn : n ≤ 64) (ha : oa + n ≤ 8 * os.size) :
  Calls Tryd.prog 77 #[.pointer (some ⟨ob, 0, none⟩), .int .i64 (n : Int)] W fun e w' =>
   e = .returned (.tuple #[.int .u64 ((num (((unpack (nats os)).drop oa).take n) : Nat) : Int), .int .i64 0]) ∧ GS x d m w rb s a wr (some (ob, os, oa + n)) ks w' := by
 obtain ⟨y, hf, hr, hw, hr2, hk⟩ := h
 refine (Take_any y (m + 1) W ob os oa n hn ha (hr2 _ rfl)).mono ?_
 rintro e w' ⟨rfl, y', f2, h2⟩
 exact ⟨rfl, y', hf.trans (f2.mono (fun c hc => by omega)), rdc_frame hr f2 (by omega), fun q e => (hw q e).frame f2 (by omega), fun q e => by cases e; exact h2, rk_frame hk f2 (fun c hc => by omega) hdm⟩
theorem GS.start (hr : RdC x d w rb s a) : GS x d m w rb s a none none [] w := ⟨x, Fr.refl _ _ _, hr, fun q e => (by cases e), fun q e => (by cases e), fun p hp => (by cases hp)⟩
/-- at the end: new blocks bear the reader's colour -/
theorem GS.stop (h : GS x d m w rb s a wr rd ks W) (hm : ∀ b, b < w.heap.size → x b < m) (hrb : rb < w.heap.size) : ∃ x', Fr x x' (fun c => c = d) w W ∧ RdC x' d W rb s a := by
 obtain ⟨y, hf, ⟨h1, h2, h3⟩, _⟩ := h
 refine ⟨paint x w.heap.size d, ⟨hf.os, hf.tape, hf.output, hf.size, fun b hb => paint_old hb, fun b hb _ => paint_new hb, fun b hb hc => hf.old b hb ?_⟩, h1, ?_, h3⟩
 ·rintro (e | e)
  ·exact hc e
  ·have := hm b hb; omega
 ·rw [paint_old hrb, ← hf.col rb hrb]; exact h2
end
theorem num_inj {a b : Bits} (hl : a.length = b.length) (h : num a = num b) : a = b := by
 rw [← ofN_num a, ← ofN_num b, hl, h]
end Go.Proofs.YtflnpcgnenhogaaDoor.ls
namespace Go.Proofs.YtflnpcgnenhogaaDoor.ls
open Go.RowKit Go.Proofs.YtflnpcgnenhogaaDoor.own Go.Proofs.YtflnpcgnenhogaaDoor.bit

/-- where a reader is -/
def atOf (rb : Nat) (W : World) : Nat := match W.cell? ⟨rb, 1, none⟩ with
 | some (.int _ z) => z.toNat
 | _ => 0
theorem RdC.atOf {y : Nat → Nat} {d : Nat} {W : World} {rb a : Nat} {s : ByteArray} (h : RdC y d W rb s a) : atOf rb W = a := by
 have c : W.cell? ⟨rb, 1, none⟩ = some (.int .i64 (a : Int)) := by rw [cell_of_row _ _ _ _ _ _ h.1]; rfl
 unfold ls.atOf
 rw [c]
 exact Int.toNat_natCast a
theorem GS.atOf {x : Nat → Nat} {d m : Nat} {w W : World} {rb a : Nat} {s : ByteArray} {wr : Option (Nat × Bits)} {rd : Option (Nat × ByteArray × Nat)} {ks : List (Nat × Obj)} (h : GS x d m w rb s a wr rd ks W) : atOf rb W = a := by
 obtain ⟨y, _, hr, _⟩ := h
 exact RdC.atOf hr
/-- bits that agree so far, and further -/
theorem agree_step {A C : Bits} {k n : Nat} (h : A.take k = C.take k) (hA : k + n ≤ A.length) (hC : k + n ≤ C.length) : (num ((A.drop k).take n) = num ((C.drop k).take n) → A.take (k + n) = C.take (k + n)) ∧ (A.take (k + n) = C.take (k + n) → num ((A.drop k).take n) = num ((C.drop k).take n)) := by
 constructor
 ·intro e
  have e2 : (A.drop k).take n = (C.drop k).take n := num_inj (by rw [List.length_take, List.length_take, List.length_drop, List.length_drop]; omega) e
  rw [List.take_add, List.take_add, h, e2]
 ·intro e
  rw [List.take_add, List.take_add] at e
  have := List.append_inj e (by rw [List.length_take, List.length_take]; omega)
  rw [this.2]
set_option maxRecDepth 100000 in
set_option maxHeartbeats 6400000 in
theorem anew_any (x : Nat → Nat) (d : Nat) (w : World) (hG : GL w) (hg0 : x 0 ≠ d ∧ x 1 ≠ d) (rb : Nat) (s : ByteArray) (at_ e : Nat) (hr : RdC x d w rb s e) (hat : at_ ≤ e)
  (xv deg r : Nat) (p : Pr) (al : Option Addr) (l : List Nat) (cap : Nat) (hcap : l.length ≤ cap) (hL : LV w al l) (hLc : ∀ g o, al = some ⟨g, o, none⟩ → 0 < l.length → x g ≠ d)
  (bl : Option Addr) (ref : List Nat) (capb : Nat) (hcapb : ref.length ≤ capb) (hR : LV w bl ref) (hRc : ∀ g o, bl = some ⟨g, o, none⟩ → 0 < ref.length → x g ≠ d) (hm : MayN xv l ref r p) :
  Calls Tryd.prog 44 #[parV (p.win : Int) (p.itv : Int) (p.zet : Int), .pointer (some ⟨rb, 0, none⟩), .int .i64 (at_ : Int), .int .i64 (xv : Int), .agg #[.int .i64 (deg : Int), .int .i64 (r : Int)], .slice al l.length cap, .slice bl ref.length capb] w fun en w' =>
   en = .returned (.bool (decide (bitsOf (tlN xv l ref r p) = ((unpack (nats s)).drop at_).take (e - at_)))) ∧ ∃ x', Fr x x' (fun c => c = d) w w' ∧ RdC x' d w' rb s e := by
 obtain ⟨m, hdm, hfr⟩ := fresh x d w.heap.size
 have hrb := lt_of_block hr.1
 have he8 : e ≤ 8 * s.size := hr.2.2.1
 have hs8 : s.size ≤ 1152921504606846975 := hr.2.2.2
 have DM := Lib.hid hdm
 have STOP := Lib.hid (fun W a wr rd ks (h : GS x d m w rb s a wr rd ks W) => h.stop hfr hrb)
 have GLs := Lib.hid (fun W a wr rd ks (h : GS x d m w rb s a wr rd ks W) => h.gl hG hg0 hfr)
 have LVl := Lib.hid (fun W a wr rd ks (h : GS x d m w rb s a wr rd ks W) => h.lv hfr hL hLc)
 have LVr := Lib.hid (fun W a wr rd ks (h : GS x d m w rb s a wr rd ks W) => h.lv hfr hR hRc)
 obtain ⟨LB, hLB⟩ : ∃ L, lay xv l ref r p = L := ⟨_, rfl⟩
 obtain ⟨TL, hTL⟩ : ∃ L, bitsOf (tlN xv l ref r p) = L := ⟨_, rfl⟩
 obtain ⟨ha, hha⟩ : ∃ n, (bitsOf (hdN l r p)).length = n := ⟨_, rfl⟩
 have ENC := Lib.hid (fun W (wb a : Nat) ks (h : GS x d m w rb s a (some (wb, [])) none ks W) => hLB ▸ h.enc hdm (h.gl hG hg0 hfr) p xv al l cap bl ref capb r hcap hcapb hm (h.lv hfr hL hLc) (h.lv hfr hR hRc))
 have HLN : Hid (LB.length = ha + TL.length) := Lib.hid (by rw [← hLB, hd_len, hha, hTL])
 have LL := lay_len hm
 rw [hLB] at LL
 obtain ⟨R', hR'⟩ := text_back LB
 have HR : Hid (hread p.win (unpack (nats (txt (packN LB)))) 0 = some (l.length, (if l = [] then 0 else r), ha) ∧ (unpack (nats (txt (packN LB)))).drop ha = TL ++ R') := Lib.hid (by
  have h := hread_lay (B := unpack (nats (txt (packN LB)))) (R := R') (a := 0) hm (by rw [List.drop_zero, hR', hLB])
  rw [hha, hTL, Nat.zero_add] at h
  exact h)
 have HD := Lib.hid (fun W wr (ob a : Nat) ks (h : GS x d m w rb s a wr (some (ob, txt (packN LB), 0)) ks W) => h.head hdm hG hg0 hfr p hm.1)
 have HTS : Hid ((txt (packN LB)).size ≤ 1152921504606846975) := Lib.hid (by rw [txt_size, packN_length]; omega)
 have HOL : Hid (ha + TL.length ≤ 8 * (txt (packN LB)).size) := Lib.hid (by rw [← HLN.out, txt_size, packN_length]; omega)
 rw [HR.out.1] at HD
 obtain ⟨rr, hrr⟩ : ∃ q, (if l = [] then 0 else r) = q := ⟨_, rfl⟩
 rw [hrr] at HD
 obtain ⟨ll, hll⟩ : ∃ q, l.length = q := ⟨_, rfl⟩
 rw [hll] at HD ENC hcap ⊢
 obtain ⟨lr, hlr⟩ : ∃ q, ref.length = q := ⟨_, rfl⟩
 rw [hlr] at ENC hcapb ⊢
 obtain ⟨B, hB⟩ : ∃ B, unpack (nats s) = B := ⟨_, rfl⟩
 have HB := Lib.hid hB
 obtain ⟨res, hres⟩ : ∃ b, decide (TL = (B.drop at_).take (e - at_)) = b := ⟨_, rfl⟩
 have HRES := Lib.hid hres
 have H0 := Lib.hid (GS.start (m := m) hr)
 rw [hTL, hB, hres]
 unfold hrV hrA at HD
 dsimp only at HD
 obtain ⟨win, itv, zet⟩ := p
 dsimp only at HD ENC ⊢
 unfold parV at HD ENC ⊢
 clear hG hg0 hr hL hLc hR hRc hm hfr hLB hTL hha hR' hrr hll hlr hB hres hdm
 go_enter Tryd.func44, Tryd.ntmps44
 go_upto_region 1 with fail
 have f1 := (H0.out.add DM.out #[.int .i64 (win : Int), .int .i64 (itv : Int), .int .i64 (zet : Int)] 38).add DM.out #[.int .i64 (deg : Int), .int .i64 (r : Int)] 55
 obtain ⟨sz, hsz⟩ : ∃ z, w.heap.size = z := ⟨_, rfl⟩
 have hsz2 : (w.alloc (.cells #[.int .i64 (win : Int), .int .i64 (itv : Int), .int .i64 (zet : Int)] 38)).heap.size = sz + 1 := by simp [hsz]
 rw [hsz2, hsz] at f1
 rw [hsz]
 obtain ⟨ks, hks⟩ : ∃ k, (sz + 1, Obj.cells #[.int .i64 (deg : Int), .int .i64 (r : Int)] 55 (0, 0)) :: (sz, Obj.cells #[.int .i64 (win : Int), .int .i64 (itv : Int), .int .i64 (zet : Int)] 38 (0, 0)) :: [] = k := ⟨_, rfl⟩
 have M1 : Hid ((sz + 1, Obj.cells #[.int .i64 (deg : Int), .int .i64 (r : Int)] 55 (0, 0)) ∈ ks) := Lib.hid (by rw [← hks]; exact List.mem_cons_self ..)
 have M2 : Hid ((sz, Obj.cells #[.int .i64 (win : Int), .int .i64 (itv : Int), .int .i64 (zet : Int)] 38 (0, 0)) ∈ ks) := Lib.hid (by rw [← hks]; exact List.mem_cons_of_mem _ (List.mem_cons_self ..))
 rw [hks] at f1
 generalize World.alloc (World.alloc w _) _ = W1 at f1 ⊢
 have F1 := Lib.hid f1
 clear f1 hsz hsz2 hks H0
 go_wp2_with fail
 with_reducible refine F1.out.at_.mono ?_
 rintro en w2 ⟨rfl, rfl⟩
 have NW := Lib.hid (F1.out.new DM.out)
 go_wp2_with fail
 with_reducible refine NW.out.mono ?_
 rintro en w2 ⟨wb, rfl, h2⟩
 have F2 := Lib.hid h2
 have r1 := F2.out.row M1.out
 have r2 := F2.out.row M2.out
 have c0 : w2.cell? ⟨sz + 1, 1, none⟩ = some (.int .i64 (r : Int)) := by rw [cell_of_row _ _ _ _ _ _ r1]; rfl
 have c1 : w2.cell? ⟨sz, 0, none⟩ = some (.int .i64 (win : Int)) := by rw [cell_of_row _ _ _ _ _ _ r2]; rfl
 have c2 : w2.cell? ⟨sz, 1, none⟩ = some (.int .i64 (itv : Int)) := by rw [cell_of_row _ _ _ _ _ _ r2]; rfl
 have c3 : w2.cell? ⟨sz, 2, none⟩ = some (.int .i64 (zet : Int)) := by rw [cell_of_row _ _ _ _ _ _ r2]; rfl
 have EN := Lib.hid (ENC.out _ _ _ _ h2)
 clear r1 r2 h2 NW F1 ENC
 go_wp2_with fail
 with_reducible refine EN.out.mono ?_
 rintro en w3 ⟨rfl, h3⟩
 have F3 := Lib.hid h3
 clear c0 c1 c2 c3 h3 EN F2
 go_wp2_with fail
 with_reducible refine F3.out.text.mono ?_
 rintro en w4 ⟨rfl, rfl⟩
 have OP := Lib.hid (F3.out.open DM.out _ HTS.out)
 go_wp2_with fail
 with_reducible refine OP.out.mono ?_
 rintro en w4 ⟨ob, rfl, h4⟩
 have F4 := Lib.hid h4
 have r2 := F4.out.row M2.out
 have c1 : w4.cell? ⟨sz, 0, none⟩ = some (.int .i64 (win : Int)) := by rw [cell_of_row _ _ _ _ _ _ r2]; rfl
 have c2 : w4.cell? ⟨sz, 1, none⟩ = some (.int .i64 (itv : Int)) := by rw [cell_of_row _ _ _ _ _ _ r2]; rfl
 have c3 : w4.cell? ⟨sz, 2, none⟩ = some (.int .i64 (zet : Int)) := by rw [cell_of_row _ _ _ _ _ _ r2]; rfl
 have HE := Lib.hid (HD.out _ _ _ _ _ h4)
 clear r2 h4 OP F3 HD
 go_wp2_with fail
 with_reducible refine HE.out.mono ?_
 rintro en w5 ⟨rfl, h5⟩
 have F5 := Lib.hid h5
 clear c1 c2 c3 h5 HE F4
 go_upto_region 8 with fail
 have f6 := F5.out.next DM.out ((Below.refl _ _).alloc (Nat.le_refl _) (.cells #[.int .i64 (ll : Int), .int .i64 (rr : Int)] 55))
 generalize World.alloc w5 _ = w6 at f6 ⊢
 obtain ⟨z5, hz5⟩ : ∃ z, w5.heap.size = z := ⟨_, rfl⟩
 rw [hz5]
 obtain ⟨lb, hlb⟩ : ∃ k, LB.length = k := ⟨_, rfl⟩
 obtain ⟨tl, htl⟩ : ∃ k, TL.length = k := ⟨_, rfl⟩
 obtain ⟨L, hL⟩ : ∃ k, e - at_ = k := ⟨_, rfl⟩
 have lbI : (lb : Int) - (ha : Int) = (tl : Int) := by have := HLN.out; omega
 have eI : (e : Int) - (at_ : Int) = (L : Int) := by omega
 have LEN := Lib.hid (hlb ▸ f6.len)
 have OAT := Lib.hid f6.oat
 have F6 := Lib.hid f6
 have HTL := Lib.hid htl
 have HL := Lib.hid hL
 have B8 : Hid (B.length = 8 * s.size) := Lib.hid (by rw [← HB.out, bits_len])
 have lb9 : lb ≤ 5243040 := by omega
 have tl9 : tl ≤ lb := by have := HLN.out; omega
 have ha9 : ha ≤ lb := by have := HLN.out; omega
 clear f6 F5 hz5 hlb htl hL
 by_cases hq : tl = L
 case neg =>
  have hres : res = false := by
   rw [← HRES.out]
   refine decide_eq_false (fun h => hq ?_)
   have := congrArg List.length h
   rw [List.length_take, List.length_drop, HTL.out, B8.out, HL.out] at this
   omega
  subst hres
  have i1 : ((tl : Int) != (L : Int)) = true := by simp; omega
  have OUT := Lib.hid (STOP.out _ _ _ _ _ F6.out)
  clear hq
  go_wp2_with fail
  with_reducible refine LEN.out.mono ?_
  rintro en w7 ⟨rfl, rfl⟩
  go_wp2_with fail
  with_reducible refine OAT.out.mono ?_
  rintro en w7 ⟨rfl, rfl⟩
  go_wp2_with fail
  go_ret
  exact ⟨rfl, OUT.out⟩
 case pos =>
  subst hq
  have i1 : ((tl : Int) != (tl : Int)) = false := by simp
  have SK := Lib.hid (F6.out.seek DM.out at_ (by omega))
  go_wp2_with fail
  with_reducible refine LEN.out.mono ?_
  rintro en w7 ⟨rfl, rfl⟩
  go_wp2_with fail
  with_reducible refine OAT.out.mono ?_
  rintro en w7 ⟨rfl, rfl⟩
  go_wp2_with fail
  with_reducible refine SK.out.mono ?_
  rintro en w7 ⟨rfl, h7⟩
  have F7 := Lib.hid h7
  clear h7 SK LEN OAT F6 i1
  go_wp2_with fail
  go_loopw [22] (fun _ wr => ∃ k : Nat, k ≤ tl ∧ (B.drop at_).take k = TL.take k ∧ GS x d m w rb s (at_ + k) (some (wb, LB)) (some (ob, txt (packN LB), ha + k)) ks wr) (fun _ W => e - atOf rb W)
  case atStart => exact ⟨0, Nat.zero_le _, rfl, F7.out⟩
  case round =>
   obtain ⟨k, hk, hagr, hF⟩ := hrel
   have F := Lib.hid hF
   have AG := Lib.hid hagr
   obtain ⟨ak, hak⟩ : ∃ z, at_ + k = z := ⟨_, rfl⟩
   have HAK := Lib.hid hak
   have AT := Lib.hid (hak ▸ hF.at_)
   have AO := Lib.hid (hak ▸ hF.atOf)
   clear hF hagr
   by_cases hlt : k < tl
   ·have i1 : decide ((ak : Int) < (e : Int)) = true := decide_eq_true (by omega)
    obtain ⟨n, hn⟩ : ∃ n : Nat, n = min 64 (tl - k) := ⟨_, rfl⟩
    have hn1 : n ≤ 64 := by omega
    have hn2 : k + n ≤ tl := by omega
    have hn3 : 1 ≤ n := by omega
    have hmin : min (64 : Int) ((e : Int) - (ak : Int)) = (n : Int) := by omega
    have T1 := Lib.hid (hak ▸ F.out.take DM.out n hn1 (by omega))
    obtain ⟨v1, hv1⟩ : ∃ v, num (((unpack (nats s)).drop ak).take n) = v := ⟨_, rfl⟩
    obtain ⟨v2, hv2⟩ : ∃ v, num (((unpack (nats (txt (packN LB)))).drop (ha + k)).take n) = v := ⟨_, rfl⟩
    have T2 : Hid (∀ W a, GS x d m w rb s a (some (wb, LB)) (some (ob, txt (packN LB), ha + k)) ks W → Calls Tryd.prog 77 #[.pointer (some ⟨ob, 0, none⟩), .int .i64 (n : Int)] W fun en w' => en = .returned (.tuple #[.int .u64 (v2 : Int), .int .i64 0]) ∧ GS x d m w rb s a (some (wb, LB)) (some (ob, txt (packN LB), ha + k + n)) ks w') := Lib.hid (fun W a h => hv2 ▸ h.otake DM.out n hn1 (by have := HOL.out; have := HTL.out; omega))
    have ST := agree_step (A := B.drop at_) (C := TL) (k := k) (n := n) AG.out (by rw [List.length_drop, B8.out]; omega) (by rw [HTL.out]; exact hn2)
    have e1 : ((B.drop at_).drop k).take n = ((unpack (nats s)).drop ak).take n := by rw [HB.out, List.drop_drop, hak]
    have e2 : (TL.drop k).take n = ((unpack (nats (txt (packN LB)))).drop (ha + k)).take n := by
     rw [← List.drop_drop, HR.out.2, List.drop_append_of_le_length (by rw [HTL.out]; omega), List.take_append_of_le_length (by rw [List.length_drop, HTL.out]; omega)]
    rw [e1, e2, hv1, hv2] at ST
    have HST := Lib.hid ST
    have SK : Hid (∀ W a o, GS x d m w rb s a (some (wb, LB)) o ks W → Calls Tryd.prog 40 #[.pointer (some ⟨rb, 0, none⟩), .int .i64 (e : Int)] W fun en w' => en = .returned (.int .i64 0) ∧ GS x d m w rb s e (some (wb, LB)) o ks w') := Lib.hid (fun W a o h => h.seek DM.out e he8)
    rw [hv1] at T1
    clear ST e1 e2 hv1 hv2 hn
    go_wp2_with fail
    with_reducible refine AT.out.mono ?_
    rintro en w8 ⟨rfl, rfl⟩
    go_wp2_with fail
    with_reducible refine AT.out.mono ?_
    rintro en w8 ⟨rfl, rfl⟩
    clear AT
    go_wp2_with fail
    with_reducible refine T1.out.mono ?_
    rintro en w8 ⟨rfl, h8⟩
    have F8 := Lib.hid h8
    clear T1 h8
    go_wp2_with fail
    with_reducible refine (T2.out _ _ F8.out).mono ?_
    rintro en w9 ⟨rfl, h9⟩
    have F9 := Lib.hid h9
    clear T2 h9
    by_cases hv : v1 = v2
    ·have i2 : ((v1 : Int) != (v2 : Int)) = false := by simp [hv]
     have AG2 := Lib.hid (HST.out.1 hv)
     have AO2 := Lib.hid F9.out.atOf
     have GO : Hid (∃ k : Nat, k ≤ tl ∧ (B.drop at_).take k = TL.take k ∧ GS x d m w rb s (at_ + k) (some (wb, LB)) (some (ob, txt (packN LB), ha + k)) ks w9) := Lib.hid ⟨k + n, hn2, AG2.out, by
      have := F9.out
      rw [← hak, Nat.add_assoc, Nat.add_assoc] at this
      exact this⟩
     clear hv HST
     go_wp2_with fail
     go_roundw
     case rel => exact GO.out
     case measure => rw [AO2.out, AO.out]; omega
    ·have i2 : ((v1 : Int) != (v2 : Int)) = true := by simp; omega
     have hres : res = false := by
      rw [← HRES.out]
      refine decide_eq_false (fun h => hv (HST.out.2 ?_))
      rw [HL.out] at h
      rw [h, List.take_take, Nat.min_eq_left hn2]
     subst hres
     have SK2 := Lib.hid (SK.out _ _ _ F9.out)
     clear hv HST SK
     go_wp2_with fail
     with_reducible refine SK2.out.mono ?_
     rintro en w10 ⟨rfl, h10⟩
     have OUT := Lib.hid (STOP.out _ _ _ _ _ h10)
     clear h10 SK2
     go_wp2_with fail
     go_ret
     exact ⟨rfl, OUT.out⟩
   ·have hkt : k = tl := by omega
    subst hkt
    have i1 : decide ((ak : Int) < (e : Int)) = false := decide_eq_false (by omega)
    have hres : res = true := by
     rw [← HRES.out]
     refine decide_eq_true ?_
     rw [HL.out, AG.out, List.take_of_length_le (by rw [HTL.out]; exact Nat.le_refl _)]
    subst hres
    have hake : at_ + k = e := by omega
    have OUT := Lib.hid (hake ▸ STOP.out _ _ _ _ _ F.out)
    clear hake
    go_wp2_with fail
    with_reducible refine AT.out.mono ?_
    rintro en w8 ⟨rfl, rfl⟩
    go_wp2_with fail
    go_ret
    exact ⟨rfl, OUT.out⟩
end Go.Proofs.YtflnpcgnenhogaaDoor.ls
namespace Go.Proofs.YtflnpcgnenhogaaDoor.ls
open Go.RowKit Go.Proofs.YtflnpcgnenhogaaDoor.own Go.Proofs.YtflnpcgnenhogaaDoor.bit

theorem TK.start {x : Nat → Nat} {d t u : Nat} {w W : World} {rb a : Nat} {s : ByteArray} {ks : List (Nat × Obj)} (h : RE x d t u w rb s a ks W) :
  TK x d t u w rb W.heap.size s a false ks (W.alloc (.cells #[.pointer (some ⟨rb, 0, none⟩), .bool false] 101)) :=
 ⟨h.keep _ _, fun p hp => by have := lt_of_block (h.row (b := p.1) (o := p.2) hp); omega⟩
/-- a call that turns nothing but what bears the reader's colour -/
theorem TR.turn {x : Nat → Nat} {d t u : Nat} (hdu : d ≠ u) {w W : World} {rb qb a : Nat} {s : ByteArray} {bad : Bool} {ks : List (Nat × Obj)} {l : List Nat} {v : Value} (h : TR x d t u w rb qb s a bad ks l v W) {f : Nat} {args : Array Value} {P : Ending → Prop} {a2 : Nat}
  (hc : ∀ x', Fr x x' (fun e => e = d ∨ e = t ∨ e = u) w W → RdC x' d W rb s a → (∀ g, v.ownBlock = some g → x' g = u) → Calls Tryd.prog f args W fun en w' => P en ∧ ∃ x2, Fr x' x2 (fun c => c = d) W w' ∧ RdC x2 d w' rb s a2) :
  Calls Tryd.prog f args W fun en w' => P en ∧ TR x d t u w rb qb s a2 bad ks l v w' := by
 obtain ⟨h1, ks', h2, h3, h4, ⟨x', hf, hr, hk⟩, h6⟩ := h
 have hg : ∀ g, v.ownBlock = some g → x' g = u := fun g e => by
  obtain ⟨o, ho⟩ := h2 g e
  exact (hk _ (List.mem_cons_of_mem _ (List.mem_append_left _ ho))).1
 refine (hc x' hf hr hg).mono ?_
 rintro en w' ⟨hp, x2, f2, hr2⟩
 have old : ∀ b, b < W.heap.size → x' b = u → w'.heap[b]? = W.heap[b]? := fun b hb e => f2.old b hb (by rw [e]; exact fun e2 => hdu e2.symm)
 refine ⟨hp, own_same h1 (fun g e => old g ?_ (hg g e)), ks', h2, h3, h4, ⟨x2, hf.trans (f2.mono (fun c hc => .inl hc)), hr2, fun p hp => ?_⟩, h6⟩
 ·obtain ⟨o, ho⟩ := own_block h1 e
  exact lt_of_block ho
 ·obtain ⟨h7, h8⟩ := hk p hp
  exact ⟨(f2.col _ (lt_of_block h8)).trans h7, (old _ (lt_of_block h8) h7).trans h8⟩
theorem TR.seek {x : Nat → Nat} {d t u : Nat} (hdu : d ≠ u) {w W : World} {rb qb a : Nat} {s : ByteArray} {bad : Bool} {ks : List (Nat × Obj)} {l : List Nat} {v : Value} (h : TR x d t u w rb qb s a bad ks l v W) (a0 : Nat) (ha : a0 ≤ 8 * s.size) :
  Calls Tryd.prog 40 #[.pointer (some ⟨rb, 0, none⟩), .int .i64 (a0 : Int)] W fun en w' => en = .returned (.int .i64 0) ∧ TR x d t u w rb qb s a0 bad ks l v w' :=
 h.turn hdu (P := fun en => en = .returned (.int .i64 0)) (fun x' _ hr _ => (Seek_any x' d s a a0 rb W hr ha).mono (by
  rintro e w' ⟨rfl, f2, h2⟩
  exact ⟨rfl, x', f2, h2⟩))
theorem TR.lv {x : Nat → Nat} {d t u : Nat} {w W : World} {rb qb a : Nat} {s : ByteArray} {bad : Bool} {ks : List (Nat × Obj)} {l : List Nat} {v : Value} (h : TR x d t u w rb qb s a bad ks l v W) (hl : l.length ≤ 200000) (hb : ∀ v ∈ l, v < 65536) : ∃ al cap, v = .slice al l.length cap ∧ l.length ≤ cap ∧ LV W al l :=
 lv_own (by omega) (fun u hu => by have := hb u hu; omega) h.1
theorem TR.anew {x : Nat → Nat} {d t u : Nat} (hdu : d ≠ u) {w W : World} (hG : GL w) (hgl : GlC x d t u) {rb qb e : Nat} {s : ByteArray} {bad : Bool} {ks : List (Nat × Obj)} {l : List Nat} {al : Option Addr} {cap : Nat} (h : TR x d t u w rb qb s e bad ks l (.slice al l.length cap) W) (at_ : Nat) (hat : at_ ≤ e)
  (xv deg r : Nat) (p : Pr) (hcap : l.length ≤ cap) (hL : LV W al l) (bl : Option Addr) (ref : List Nat) (capb : Nat) (hcapb : ref.length ≤ capb) (hR : LV w bl ref) (hRc : Apt x d t u bl ref) (hm : MayN xv l ref r p) :
  Calls Tryd.prog 44 #[parV (p.win : Int) (p.itv : Int) (p.zet : Int), .pointer (some ⟨rb, 0, none⟩), .int .i64 (at_ : Int), .int .i64 (xv : Int), .agg #[.int .i64 (deg : Int), .int .i64 (r : Int)], .slice al l.length cap, .slice bl ref.length capb] W fun en w' =>
   en = .returned (.bool (decide (bitsOf (tlN xv l ref r p) = ((unpack (nats s)).drop at_).take (e - at_)))) ∧ TR x d t u w rb qb s e bad ks l (.slice al l.length cap) w' := by
 have hGW := h.re.gl hG hgl
 have hRW := h.re.lv hR hRc
 refine h.turn hdu (P := fun en => en = _) (fun x' hf hr hg => anew_any x' d W hGW ?_ rb s at_ e hr hat xv deg r p al l cap hcap hL ?_ bl ref capb hcapb hRW ?_ hm)
 ·have l0 := World.block_lt_of_cell? _ _ hG.g0
  have l1 := World.block_lt_of_cell? _ _ hG.u0
  rw [hf.col 0 l0, hf.col 1 l1]
  exact ⟨hgl.1, hgl.2.2.2.1⟩
 ·intro g o e _
  rw [hg g (by rw [e]; rfl)]
  exact fun e => hdu e.symm
 ·intro g o e h0
  obtain ⟨g', o', e', hlt, _⟩ := hR.2 0 h0
  rw [e] at e'
  injection e' with e'
  injection e' with e1 e2
  subst e1
  rw [hf.col g hlt]
  exact fun e2 => hRc g o e h0 (.inl e2)
/-- a reader, a list of one's own, rows beside -/
def RR (x : Nat → Nat) (d t u : Nat) (w : World) (rb : Nat) (s : ByteArray) (a : Nat) (ks : List (Nat × Obj)) (l : List Nat) (v : Value) (W : World) : Prop :=
 W.ownsRow 0 60 1 v l.length (u32V l) ∧ ∃ ks', (∀ g, v.ownBlock = some g → ∃ o, (g, o) ∈ ks') ∧ (∀ p ∈ ks', some p.1 = v.ownBlock) ∧ (∀ p ∈ ks, some p.1 ≠ v.ownBlock) ∧ RE x d t u w rb s a (ks' ++ ks) W
theorem TR.rr {x : Nat → Nat} {d t u : Nat} {w W : World} {rb qb a : Nat} {s : ByteArray} {bad : Bool} {ks : List (Nat × Obj)} {l : List Nat} {v : Value} (h : TR x d t u w rb qb s a bad ks l v W) : RR x d t u w rb s a ks l v W := by
 obtain ⟨h1, ks', h2, h3, h4, h5, h6⟩ := h
 exact ⟨h1, ks', h2, h3, h4, h5.sub (fun p hp => List.mem_cons_of_mem _ hp)⟩
theorem RR.nil {x : Nat → Nat} {d t u : Nat} {w W : World} {rb a : Nat} {s : ByteArray} {ks : List (Nat × Obj)} (h : RE x d t u w rb s a ks W) : RR x d t u w rb s a ks [] (.slice none 0 0) W :=
 ⟨World.ownsRow_nil _ _ _ _, [], fun _ hg => (by cases hg), fun _ hp => (by cases hp), fun _ _ e => (by cases e), h⟩
/-- what Decode answers -/
def DecP (O : Option (List Nat × Nat)) (x : Nat → Nat) (d t u : Nat) (w : World) (rb : Nat) (s : ByteArray) (a : Nat) (ks : List (Nat × Obj)) (en : Ending) (w' : World) : Prop :=
 match O with
 | some q => ∃ v, en = .returned (.tuple #[v, .int .i64 0]) ∧ RR x d t u w rb s q.2 ks q.1 v w'
 | none => en = .returned (.tuple #[.slice none 0 0, .int .i64 4]) ∧ RE x d t u w rb s a ks w'

/-! ### the plain law -/
theorem rd_pos (c : Cd) {B : Bits} {v n : Nat} (h : rd c B = some (v, n)) : 1 ≤ n := by
 cases c with
 | una =>
  rw [rd_una] at h
  cases hz : zer 65536 B with
  | none => rw [hz] at h; cases h
  | some b => rw [hz] at h; injection h with h; injection h with h1 h2; omega
 | gam =>
  rw [rd_gam] at h
  cases hz : zer 48 B with
  | none => rw [hz] at h; cases h
  | some b =>
   rw [hz] at h
   simp only [Option.bind_some] at h
   split at h
   ·cases h
   ·injection h with h; injection h with h1 h2; omega
 | zet k =>
  rw [rd_zet] at h
  cases hz : zer (47 / k + 1) B with
  | none => rw [hz] at h; cases h
  | some b =>
   rw [hz] at h
   simp only [Option.bind_some] at h
   cases hm : mread (2 ^ ((b + 1) * k) - 2 ^ (b * k)) (B.drop (b + 1)) with
   | none => rw [hm] at h; cases h
   | some q =>
    rw [hm] at h
    simp only [Option.bind_some] at h
    split at h
    ·injection h with h; injection h with h1 h2; omega
    ·cases h
theorem tk_pos {B : Bits} {c : Cd} (hc : c.ok) {most a v e : Nat} (h : tk B c most a = some (v, e)) (ha : a ≤ B.length) : a + 1 ≤ e ∧ e ≤ B.length := by
 have h2 := (tk_bound hc h ha).2.2.2
 unfold tk at h
 cases hr : rd c (B.drop a) with
 | none => rw [hr] at h; cases h
 | some q =>
  rw [hr] at h
  simp only [Option.bind_some] at h
  split at h
  ·injection h with h
   injection h with h3 h4
   have := rd_pos c (v := q.1) (n := q.2) hr
   omega
  ·cases h
theorem cpy_le {B : Bits} : ∀ (c i : Nat) (ref : List Nat) (a : Nat) (t : List Nat × List Nat × Nat), cpy B c i ref a = some t → a ≤ B.length → a ≤ t.2.2 ∧ t.2.2 ≤ B.length
 | 0, i, ref, a, t, h, ha => by injection h with h; subst h; exact ⟨Nat.le_refl _, ha⟩
 | c + 1, i, ref, a, t, h, ha => by
  rw [cpy] at h
  cases ht : tk B .gam ref.length a with
  | none => rw [ht] at h; cases h
  | some q =>
   rw [ht, Option.bind_some] at h
   have hq := tk_pos (c := .gam) trivial (v := q.1) (e := q.2) ht ha
   split at h
   ·cases h
   ·cases hc : cpy B c (i + 1) (ref.drop (q.1 + min i 1)) q.2 with
    | none => rw [hc] at h; cases h
    | some t2 =>
     rw [hc] at h
     injection h with h
     subst h
     have := cpy_le c (i + 1) _ _ t2 hc hq.2
     exact ⟨by show a ≤ t2.2.2; omega, this.2⟩
theorem copies_pos {B : Bits} {ref : List Nat} {a : Nat} {q : List Nat × Nat} (h : copies B ref a = some q) (ha : a ≤ B.length) : a + 1 ≤ q.2 ∧ q.2 ≤ B.length := by
 unfold copies at h
 cases ht : tk B .gam (ref.length + 1) a with
 | none => rw [ht] at h; cases h
 | some q0 =>
  rw [ht, Option.bind_some] at h
  have hq := tk_pos (c := .gam) trivial (v := q0.1) (e := q0.2) ht ha
  cases hc : cpy B q0.1 0 ref q0.2 with
  | none => rw [hc] at h; cases h
  | some t2 =>
   rw [hc] at h
   injection h with h
   subst h
   have := cpy_le _ _ _ _ t2 hc hq.2
   exact ⟨by show a + 1 ≤ t2.2.2; omega, this.2⟩
end Go.Proofs.YtflnpcgnenhogaaDoor.ls
namespace Go.Proofs.YtflnpcgnenhogaaDoor.ls
open Go.RowKit Go.Proofs.YtflnpcgnenhogaaDoor.own Go.Proofs.YtflnpcgnenhogaaDoor.bit

theorem lng_le {B : Bits} {x most itv : Nat} : ∀ (c : Nat) (e : Option Nat) (used a : Nat) (t : List Nat × Nat), lng B x most itv c e used a = some t → a ≤ B.length → a ≤ t.2 ∧ t.2 ≤ B.length
 | 0, e, used, a, t, h, ha => by injection h with h; subst h; exact ⟨Nat.le_refl _, ha⟩
 | c + 1, e, used, a, t, h, ha => by
  rw [lng] at h
  cases ht : tk B .gam 262144 a with
  | none => rw [ht] at h; cases h
  | some q =>
   rw [ht, Option.bind_some] at h
   have hq := tk_pos (c := .gam) trivial (v := q.1) (e := q.2) ht ha
   cases ht2 : tk B .gam most q.2 with
   | none => rw [ht2] at h; cases h
   | some q2 =>
    rw [ht2, Option.bind_some] at h
    have hq2 := tk_pos (c := .gam) trivial (v := q2.1) (e := q2.2) ht2 hq.2
    split at h
    ·cases h
    ·cases hc : lng B x most itv c (some ((rowFrom x e q.1).toNat + (q2.1 + itv) - 1)) (used + (q2.1 + itv)) q2.2 with
     | none => rw [hc] at h; cases h
     | some t2 =>
      rw [hc] at h
      injection h with h
      subst h
      have := lng_le c _ _ _ t2 hc hq2.2
      exact ⟨by show a ≤ t2.2; omega, this.2⟩
theorem longs_le {B : Bits} {x most itv a : Nat} {t : List Nat × Nat} (h : longs B x most itv a = some t) (ha : a ≤ B.length) : a ≤ t.2 ∧ t.2 ≤ B.length := by
 unfold longs at h
 cases ht : tk B .gam most a with
 | none => rw [ht] at h; cases h
 | some q =>
  rw [ht, Option.bind_some] at h
  have hq := tk_pos (c := .gam) trivial (v := q.1) (e := q.2) ht ha
  have := lng_le _ _ _ _ t h hq.2
  omega
theorem rsd_le {B : Bits} {x zet : Nat} (hz : 1 ≤ zet ∧ zet ≤ 16) : ∀ (n : Nat) (e : Option Nat) (a : Nat) (t : List Nat × Nat), rsd B x zet n e a = some t → a ≤ B.length → a ≤ t.2 ∧ t.2 ≤ B.length
 | 0, e, a, t, h, ha => by injection h with h; subst h; exact ⟨Nat.le_refl _, ha⟩
 | n + 1, e, a, t, h, ha => by
  rw [rsd] at h
  cases ht : tk B (.zet zet) 262144 a with
  | none => rw [ht] at h; cases h
  | some q =>
   rw [ht, Option.bind_some] at h
   have hq := tk_pos (c := .zet zet) hz (v := q.1) (e := q.2) ht ha
   split at h
   ·cases h
   ·cases hc : rsd B x zet n (some (resAt x e q.1).toNat) q.2 with
    | none => rw [hc] at h; cases h
    | some t2 =>
     rw [hc] at h
     injection h with h
     subst h
     have := rsd_le hz n _ _ t2 hc hq.2
     exact ⟨by show a ≤ t2.2; omega, this.2⟩
theorem pars_le {B : Bits} {x deg : Nat} {ref : List Nat} {r : Nat} {p : Pr} (hp : p.ok) {a : Nat} {c l z : List Nat} {a' : Nat} (h : pars B x deg ref r p a = some (c, l, z, a')) (ha : a ≤ B.length) : a ≤ a' ∧ a' ≤ B.length ∧ (0 < r → a < a') := by
 rw [pars_eq] at h
 cases h0 : cop0 B ref r a with
 | none => rw [h0] at h; cases h
 | some q0 =>
  rw [h0, Option.bind_some] at h
  have k0 : a ≤ q0.2 ∧ q0.2 ≤ B.length ∧ (0 < r → a < q0.2) := by
   unfold cop0 at h0
   split at h0
   ·have := copies_pos h0 ha; omega
   ·injection h0 with h0; subst h0; exact ⟨Nat.le_refl _, ha, fun h => by omega⟩
  split at h
  ·cases h
  ·cases h1 : lng0 B x deg p.itv q0.1 q0.2 with
   | none => rw [h1] at h; cases h
   | some q1 =>
    rw [h1, Option.bind_some] at h
    have k1 : q0.2 ≤ q1.2 ∧ q1.2 ≤ B.length := by
     unfold lng0 at h1
     split at h1
     ·exact longs_le h1 k0.2.1
     ·injection h1 with h1; subst h1; exact ⟨Nat.le_refl _, k0.2.1⟩
    cases h2 : rsd B x p.zet (deg - q0.1.length - q1.1.length) none q1.2 with
    | none => rw [h2] at h; cases h
    | some q2 =>
     rw [h2] at h
     have k2 := rsd_le hp.2.2 _ _ _ q2 h2 k1.2
     injection h with h
     injection h with _ h
     injection h with _ h
     injection h with _ h
     omega
/-- whether what was taken is told -/
theorem dec_of {B : Bits} {x n deg : Nat} {ref : List Nat} {r : Nat} {p : Pr} {a : Nat} {l : List Nat} {a' : Nat} {bad : Bool} (h : ParP (pars B x deg ref r p a) deg l a' bad) :
  (bad = false ∧ l.length = deg ∧ Ris l ∧ (∀ v ∈ l, v < n) ∧ bitsOf (tlN x l ref r p) = (B.drop a).take (a' - a) → dec B x n deg ref r p a = some (l, a')) ∧
  (¬ (bad = false ∧ l.length = deg ∧ Ris l ∧ (∀ v ∈ l, v < n) ∧ bitsOf (tlN x l ref r p) = (B.drop a).take (a' - a)) → dec B x n deg ref r p a = none) ∧
  (bad = false → l.length = deg → ∃ c l1 z, pars B x deg ref r p a = some (c, l1, z, a')) := by
 obtain ⟨h1, h2, h3, h4⟩ := h
 cases hb : bad with
 | true =>
  rw [hb] at h3
  refine ⟨fun h => (by cases h.1), fun _ => ?_, fun h => (by cases h)⟩
  unfold dec
  rw [h3 rfl]
  rfl
 | false =>
  rw [hb] at h4
  rcases h4 rfl with ⟨c, l1, z, e1, e2⟩ | ⟨e1, e2⟩
  ·have e3 : dec B x n deg ref r p a = if (srtN (c ++ l1 ++ z)).Pairwise (· < ·) ∧ (c ++ l1 ++ z).length = deg ∧ (∀ v ∈ c ++ l1 ++ z, v < n) ∧ bitsOf (tlN x (srtN (c ++ l1 ++ z)) ref r p) = (B.drop a).take (a' - a) then some (srtN (c ++ l1 ++ z), a') else none := by
    unfold dec
    rw [e1]
    rfl
   have hp := srtN_perm (c ++ l1 ++ z)
   have e4 : l.length = (c ++ l1 ++ z).length := by rw [e2]; exact hp.length_eq
   have e5 : ∀ v, v ∈ l ↔ v ∈ c ++ l1 ++ z := fun v => by rw [e2]; exact hp.mem_iff
   rw [e3, ← e2]
   refine ⟨fun h => if_pos ⟨h.2.2.1.1, by rw [← e4]; exact h.2.1, fun v hv => h.2.2.2.1 v ((e5 v).2 hv), h.2.2.2.2⟩, fun h => if_neg (fun h6 => h ⟨rfl, by rw [e4]; exact h6.2.1, ⟨h6.1, h2⟩, fun v hv => h6.2.2.1 v ((e5 v).1 hv), h6.2.2.2⟩), fun _ _ => ⟨c, l1, z, e1⟩⟩
  ·have e3 : dec B x n deg ref r p a = none := by
    unfold dec
    rw [e1]
    rfl
   refine ⟨fun h => ?_, fun _ => e3, fun _ h => ?_⟩
   ·have := h.2.1; omega
   ·omega
theorem ris_last {l : List Nat} (h : Ris l) (h0 : 0 < l.length) (n : Nat) : (∀ v ∈ l, v < n) ↔ l[l.length - 1] < n := by
 constructor
 ·intro k; exact k _ (List.getElem_mem _)
 ·intro k v hv
  obtain ⟨i, hi, rfl⟩ := List.mem_iff_getElem.1 hv
  rcases Nat.lt_or_ge i (l.length - 1) with e | e
  ·have := List.pairwise_iff_getElem.1 h.1 i (l.length - 1) hi (by omega) e
   omega
  ·have : i = l.length - 1 := by omega
   subst this
   exact k
/-- nothing behind a head of none -/
theorem dec_zero (B : Bits) (x n : Nat) (ref : List Nat) (p : Pr) (a : Nat) : dec B x n 0 ref 0 p a = some ([], a) := by
 have h : ParP (pars B x 0 ref 0 p a) 0 [] a false := by
  refine ⟨by simp, fun v hv => (by cases hv), fun h => (by cases h), fun _ => .inl ⟨[], [], [], ?_, ?_⟩⟩
  ·rw [pars_eq]
   rfl
  ·exact (List.eq_nil_of_length_eq_zero (srtN_length _)).symm
 refine (dec_of (n := n) h).1 ⟨rfl, rfl, ⟨List.Pairwise.nil, fun v hv => (by cases hv)⟩, fun v hv => (by cases hv), ?_⟩
 rw [Nat.sub_self, List.take_zero]
 unfold tlN
 rw [if_pos rfl]
 rfl
end Go.Proofs.YtflnpcgnenhogaaDoor.ls
namespace Go.Proofs.YtflnpcgnenhogaaDoor.ls
open Go.RowKit Go.Proofs.YtflnpcgnenhogaaDoor.own Go.Proofs.YtflnpcgnenhogaaDoor.bit

set_option maxRecDepth 100000 in
set_option maxHeartbeats 6400000 in
theorem decode_any (x : Nat → Nat) (d t u : Nat) (hdt : d ≠ t) (hdu : d ≠ u) (htu : t ≠ u) (w : World) (hG : GL w) (hgl : GlC x d t u) (rb : Nat) (s : ByteArray) (a : Nat) (ks : List (Nat × Obj)) (W : World) (h : RE x d t u w rb s a ks W)
  (xv n deg r : Nat) (p : Pr) (hx : xv < 65536) (hn : n ≤ 65536) (hd : deg ≤ 65536) (hr : r ≤ p.win) (hp : p.ok) (ar : Option Addr) (ref : List Nat) (cap : Nat) (hcap : ref.length ≤ cap) (hris : Ris ref) (hr0 : 0 < r ∨ ref = []) (hA : LV w ar ref) (hc : Apt x d t u ar ref) :
  Calls Tryd.prog 22 #[.pointer (some ⟨rb, 0, none⟩), .int .i64 (xv : Int), .int .i64 (n : Int), .agg #[.int .i64 (deg : Int), .int .i64 (r : Int)], .slice ar ref.length cap, parV (p.win : Int) (p.itv : Int) (p.zet : Int)] W (DecP (dec (unpack (nats s)) xv n deg ref r p a) x d t u w rb s a ks) := by
 have HDU := Lib.hid hdu
 have hlen := hris.len
 have hs8 : s.size ≤ 1152921504606846975 := by obtain ⟨_, _, hr, _⟩ := h; exact hr.2.2.2
 have ha8 := h.le
 have h0 := (h.keep #[.int .i64 (deg : Int), .int .i64 (r : Int)] 55).keep #[.int .i64 (p.win : Int), .int .i64 (p.itv : Int), .int .i64 (p.zet : Int)] 38
 obtain ⟨sz, hsz⟩ : ∃ z, W.heap.size = z := ⟨_, rfl⟩
 have hsz2 : (W.alloc (.cells #[.int .i64 (deg : Int), .int .i64 (r : Int)] 55)).heap.size = sz + 1 := by simp [hsz]
 rw [hsz2, hsz] at h0
 obtain ⟨ks1, hks⟩ : ∃ k, (sz + 1, Obj.cells #[.int .i64 (p.win : Int), .int .i64 (p.itv : Int), .int .i64 (p.zet : Int)] 38 (0, 0)) :: (sz, Obj.cells #[.int .i64 (deg : Int), .int .i64 (r : Int)] 55 (0, 0)) :: ks = k := ⟨_, rfl⟩
 have M1 : Hid ((sz + 1, Obj.cells #[.int .i64 (p.win : Int), .int .i64 (p.itv : Int), .int .i64 (p.zet : Int)] 38 (0, 0)) ∈ ks1) := Lib.hid (by rw [← hks]; exact List.mem_cons_self ..)
 have M2 : Hid ((sz, Obj.cells #[.int .i64 (deg : Int), .int .i64 (r : Int)] 55 (0, 0)) ∈ ks1) := Lib.hid (by rw [← hks]; exact List.mem_cons_of_mem _ (List.mem_cons_self ..))
 have HS : Hid (∀ p ∈ ks, p ∈ ks1) := Lib.hid (fun p hp => by rw [← hks]; exact List.mem_cons_of_mem _ (List.mem_cons_of_mem _ hp))
 rw [hks] at h0
 obtain ⟨win, itv, zet⟩ := p
 have hp' := hp
 obtain ⟨hp1, hp2, hp3⟩ := hp'
 dsimp only at hp1 hp2 hp3 h0 M1 hr ⊢
 obtain ⟨B, hB⟩ : ∃ B, unpack (nats s) = B := ⟨_, rfl⟩
 have CK : Hid (∀ W, Calls Tryd.prog 16 #[.agg #[.int .i64 (win : Int), .int .i64 (itv : Int), .int .i64 (zet : Int)]] W fun e w' => e = .returned (.int .i64 0) ∧ Below W.heap.size W w') := Lib.hid (fun W => by
  have h := pcheck_any (win : Int) (itv : Int) (zet : Int) W
  rw [if_pos (show ParOk (win : Int) (itv : Int) (zet : Int) from ⟨by omega, by omega, by omega, by omega, by omega⟩)] at h
  exact h)
 have VX : Hid (∀ W, Calls Tryd.prog 41 #[.int .i64 (xv : Int)] W fun e w' => e = .returned (.bool true) ∧ W = w') := Lib.hid (fun W => by
  have h := vertex_any (xv : Int) W
  rw [decide_eq_true (show 0 ≤ (xv : Int) ∧ (xv : Int) < 65536 by omega)] at h
  exact h)
 have SR : Hid (∀ W ks a, RE x d t u w rb s a ks W → Calls Tryd.prog 42 #[.slice ar ref.length cap] W fun e w' => e = .returned (.bool true) ∧ W = w') := Lib.hid (fun W ks a h => (succ_any W ar ref cap (h.lv hA hc)).mono (by
  rintro e w' ⟨b, rfl, hb, rfl⟩
  rw [hb.2 hris]
  exact ⟨rfl, rfl⟩))
 have LS : Hid (∀ W qb ks, TK x d t u w rb qb s a false ks W → Calls Tryd.prog 43 #[.pointer (some ⟨qb, 0, none⟩), .int .i64 (xv : Int), .agg #[.int .i64 (deg : Int), .int .i64 (r : Int)], .slice ar ref.length cap, .agg #[.int .i64 (win : Int), .int .i64 (itv : Int), .int .i64 (zet : Int)]] W (ListE (ParP (pars B xv deg ref r ⟨win, itv, zet⟩ a) deg) x d t u w rb qb s ks)) := Lib.hid (fun W qb ks h => by
  rw [← hB]
  exact list_any x d t u hdt hdu htu w hG hgl rb qb s a ks W h xv deg r ⟨win, itv, zet⟩ hx hd (by omega) hp ar ref cap hcap hlen hris.2 hA hc)
 have AN : Hid (∀ W qb ks l al capl e, TR x d t u w rb qb s e false ks l (.slice al l.length capl) W → a ≤ e → l.length ≤ capl → LV W al l → Ris l → Calls Tryd.prog 44 #[.agg #[.int .i64 (win : Int), .int .i64 (itv : Int), .int .i64 (zet : Int)], .pointer (some ⟨rb, 0, none⟩), .int .i64 (a : Int), .int .i64 (xv : Int), .agg #[.int .i64 (deg : Int), .int .i64 (r : Int)], .slice al l.length capl, .slice ar ref.length cap] W fun en w' =>
   en = .returned (.bool (decide (bitsOf (tlN xv l ref r ⟨win, itv, zet⟩) = (B.drop a).take (e - a)))) ∧ TR x d t u w rb qb s e false ks l (.slice al l.length capl) w') := Lib.hid (fun W qb ks l al capl e h h1 h2 h3 h4 => by
  rw [← hB]
  exact h.anew hdu hG hgl a h1 xv deg r ⟨win, itv, zet⟩ h2 h3 ar ref cap hcap hA hc ⟨hp, hx, h4, hris, hr, hr0⟩)
 have DC := Lib.hid (fun l a' bad (h : ParP (pars B xv deg ref r ⟨win, itv, zet⟩ a) deg l a' bad) => dec_of (n := n) h)
 have PL := Lib.hid (fun c l1 z a' (h : pars B xv deg ref r ⟨win, itv, zet⟩ a = some (c, l1, z, a')) => pars_le hp h (by rw [← hB, bits_len]; exact ha8))
 have DZ : Hid (deg = 0 → r = 0 → dec B xv n deg ref r ⟨win, itv, zet⟩ a = some ([], a)) := Lib.hid (fun h1 h2 => by
  subst h1
  subst h2
  exact dec_zero B xv n ref ⟨win, itv, zet⟩ a)
 obtain ⟨D, hD⟩ : ∃ D, dec B xv n deg ref r ⟨win, itv, zet⟩ a = D := ⟨_, rfl⟩
 rw [hD] at DC DZ
 have hrl : r = 0 → ref.length = 0 := fun h => by rcases hr0 with h1 | h1; omega; rw [h1]; rfl
 have HRL := Lib.hid hrl
 unfold parV
 rw [hB, hD]
 obtain ⟨n0, hn0⟩ : ∃ n, ref.length = n := ⟨_, rfl⟩
 rw [hn0] at SR LS AN HRL hcap hlen ⊢
 have H0 := Lib.hid h0
 clear hdt hdu htu h hks hp3 hn0 hA hc hG hgl hris hr0 hrl hp h0 hD
 go_enter Tryd.func22, Tryd.ntmps22
 go_upto_block 0 with fail
 generalize World.alloc (World.alloc W _) _ = W0 at H0 ⊢
 have HC : Hid (∀ (W : World) (ks : List (Nat × Obj)) (a : Nat), RE x d t u w rb s a ks1 W → W.cell? ⟨sz, 0, none⟩ = some (.int .i64 (deg : Int)) ∧ W.cell? ⟨sz, 1, none⟩ = some (.int .i64 (r : Int)) ∧ W.cell? ⟨sz + 1, 0, none⟩ = some (.int .i64 (win : Int)) ∧ W.cell? ⟨sz + 1, 1, none⟩ = some (.int .i64 (itv : Int)) ∧ W.cell? ⟨sz + 1, 2, none⟩ = some (.int .i64 (zet : Int))) := Lib.hid (fun W _ a h => by
  have r1 := h.row M1.out
  have r2 := h.row M2.out
  refine ⟨by rw [cell_of_row _ _ _ _ _ _ r2]; rfl, by rw [cell_of_row _ _ _ _ _ _ r2]; rfl, by rw [cell_of_row _ _ _ _ _ _ r1]; rfl, by rw [cell_of_row _ _ _ _ _ _ r1]; rfl, by rw [cell_of_row _ _ _ _ _ _ r1]; rfl⟩)
 clear hsz hsz2
 go_cut [17] from 18 to 80 (fun _ wc => RE x d t u w rb s a ks1 wc ∧ ¬ (deg = 0 ∧ r = 0))
 case first =>
  obtain ⟨c0, c1, c2, c3, c4⟩ := HC.out _ ks1 _ H0.out
  clear LS AN DC PL
  go_wp2_with fail
  with_reducible refine (CK.out _).mono ?_
  rintro e w1 ⟨rfl, k1⟩
  have H1 := Lib.hid (H0.out.next k1)
  clear c0 c1 c2 c3 c4 k1 H0
  obtain ⟨c0, c1, c2, c3, c4⟩ := HC.out _ ks1 _ H1.out
  go_wp2_with fail
  with_reducible refine (VX.out _).mono ?_
  rintro e w2 ⟨rfl, rfl⟩
  have SR1 := Lib.hid (SR.out _ _ _ H1.out)
  go_wp2_with fail
  with_reducible refine SR1.out.mono ?_
  rintro e w2 ⟨rfl, rfl⟩
  clear CK VX SR SR1
  by_cases hrz : r = 0
  ·obtain rfl : n0 = 0 := HRL.out hrz
   subst hrz
   by_cases hdz : deg = 0
   ·subst hdz
    have HO : Hid (DecP D x d t u w rb s a ks (.returned (.tuple #[.slice none 0 0, .int .i64 0])) w1) := Lib.hid (by
     rw [DZ.out rfl rfl]
     exact ⟨_, rfl, RR.nil (H1.out.sub HS.out)⟩)
    go_wp2_with fail
    go_ret2
    exact HO.out
   ·have i1 : ((deg : Int) == 0) = false := beq_eq_false_iff_ne.2 (by omega)
    go_wp2_with fail
    go_meet
    case rel => exact ⟨H1.out, fun h => hdz h.1⟩
  ·have i1 : ((r : Int) == 0) = false := beq_eq_false_iff_ne.2 (by omega)
   by_cases hdz : deg = 0
   ·subst hdz
    go_wp2_with fail
    go_meet
    case rel => exact ⟨H1.out, fun h => hrz h.2⟩
   ·have i2 : ((deg : Int) == 0) = false := beq_eq_false_iff_ne.2 (by omega)
    go_wp2_with fail
    go_meet
    case rel => exact ⟨H1.out, fun h => hdz h.1⟩
 case rest =>
  obtain ⟨hR, hnz⟩ := hcut
  have R := Lib.hid hR
  have NZ := Lib.hid hnz
  have AT := Lib.hid hR.at_
  have t0 := TK.start hR
  clear hR hnz H0 CK VX SR DZ
  rename World => w4
  go_wp2_with fail
  with_reducible refine AT.out.mono ?_
  rintro e w5 ⟨rfl, rfl⟩
  go_upto_region 10 with fail
  obtain ⟨qb, hqb⟩ : ∃ z, w4.heap.size = z := ⟨_, rfl⟩
  rw [hqb] at t0 ⊢
  generalize World.alloc w4 _ = w5 at t0 ⊢
  have T0 := Lib.hid t0
  have LS1 := Lib.hid (LS.out _ _ _ t0)
  obtain ⟨c0, c1, c2, c3, c4⟩ := HC.out _ ks1 _ (t0.1.sub (fun p hp => List.mem_cons_of_mem _ hp))
  clear t0 hqb AT R
  clear LS
  go_wp2_with fail
  with_reducible refine LS1.out.mono ?_
  rintro e w6 ⟨v, l, a2, bad, rfl, hp, hT⟩
  clear c0 c1 c2 c3 c4 LS1 T0
  obtain ⟨dc1, dc2, dc3⟩ := DC.out _ _ _ hp
  have DC1 := Lib.hid dc1
  have DC2 := Lib.hid dc2
  have DC3 := Lib.hid dc3
  obtain ⟨al, capl, rfl, hcl, hLV⟩ := hT.lv hp.1 hp.2.1
  have HP := Lib.hid hp.2.1
  have hll := hp.1
  have T := Lib.hid hT
  have LVl := Lib.hid hLV
  have SK : Hid (Calls Tryd.prog 40 #[.pointer (some ⟨rb, 0, none⟩), .int .i64 (a : Int)] w6 fun en w' => en = .returned (.int .i64 0) ∧ TR x d t u w rb qb s a bad ks1 l (.slice al l.length capl) w') := Lib.hid (hT.seek HDU.out a ha8)
  have NO : Hid (D = none → ∀ bad l v wz, TR x d t u w rb qb s a bad ks1 l v wz → DecP D x d t u w rb s a ks (.returned (.tuple #[.slice none 0 0, .int .i64 4])) wz) := Lib.hid (fun h bad l v wz hz => by
   rw [h]
   exact ⟨rfl, hz.re.sub HS.out⟩)
  obtain ⟨q0, q1, qf⟩ := hT.cells
  obtain ⟨c0, c1, c2, c3, c4⟩ := HC.out _ ks1 _ hT.re
  have SUC := Lib.hid (succ_any w6 al l capl hLV)
  obtain ⟨ln, hln⟩ : ∃ k, l.length = k := ⟨_, rfl⟩
  have HLN := Lib.hid hln
  rw [hln] at hcl hll SUC SK ⊢
  clear dc1 dc2 dc3 DC hp hT hLV hln
  cases bad with
  | true =>
   have NO1 := Lib.hid (NO.out (DC2.out (fun h => by cases h.1)) true l (.slice al ln capl))
   clear NO SUC AN PL
   go_wp2_with fail
   with_reducible refine SK.out.mono ?_
   rintro e wz ⟨rfl, hz⟩
   have HO := Lib.hid (NO1.out wz hz)
   clear hz
   go_wp2_with fail
   go_ret2
   exact HO.out
  | false =>
   by_cases hld : ln = deg
   ·subst hld
    have i1 : ((ln : Int) != (ln : Int)) = false := by simp
    go_wp2_with fail
    with_reducible refine SUC.out.mono ?_
    rintro e w7 ⟨b1, rfl, hb1, rfl⟩
    cases b1 with
    | false =>
     have NO1 := Lib.hid (NO.out (DC2.out (fun h => by have := hb1.2 h.2.2.1; cases this)) false l (.slice al ln capl))
     clear NO SUC AN PL hb1
     go_wp2_with fail
     with_reducible refine SK.out.mono ?_
     rintro e wz ⟨rfl, hz⟩
     have HO := Lib.hid (NO1.out wz hz)
     clear hz
     go_wp2_with fail
     go_ret2
     exact HO.out
    | true =>
     have hris := hb1.1 rfl
     have HRIS := Lib.hid hris
     obtain ⟨cc, ll1, zz, hpars⟩ := DC3.out (by trivial) HLN.out
     obtain ⟨pl1, pl2, pl3⟩ := PL.out _ _ _ _ hpars
     by_cases hl0 : ln = 0
     ·have i2 : ((ln : Int) == 0) = true := by rw [hl0]; rfl
      have NO1 := Lib.hid (NO.out (DC2.out (fun h => by
       have e0 : l = [] := List.eq_nil_of_length_eq_zero (HLN.out.trans hl0)
       have h5 := h.2.2.2.2
       rw [e0] at h5
       have e1 : bitsOf (tlN xv [] ref r ⟨win, itv, zet⟩) = [] := by unfold tlN; rw [if_pos rfl]; rfl
       rw [e1] at h5
       have h6 := congrArg List.length h5
       rw [List.length_nil, List.length_take, List.length_drop] at h6
       have h7 : 0 < r := by
        rcases Nat.eq_zero_or_pos r with h | h
        ·exact absurd ⟨hl0, h⟩ NZ.out
        ·exact h
       have := pl3 h7
       omega)) false l (.slice al ln capl))
      clear NO SUC AN PL hb1 hpars hris
      go_wp2_with fail
      with_reducible refine SK.out.mono ?_
      rintro e wz ⟨rfl, hz⟩
      have HO := Lib.hid (NO1.out wz hz)
      clear hz
      go_wp2_with fail
      go_ret2
      exact HO.out
     ·have i2 : ((ln : Int) == 0) = false := beq_eq_false_iff_ne.2 (by omega)
      have hk : ln - 1 < l.length := by rw [HLN.out]; omega
      obtain ⟨g, capg, hv, hcell, -⟩ := T.out.cell (ln - 1) hk
      injection hv with hv1 hvn hv2
      subst hv1 hv2
      obtain ⟨k, hkk⟩ : ∃ k, ln - 1 = k := ⟨_, rfl⟩
      have hkI : (ln : Int) - 1 = (k : Int) := by omega
      have hkl : k < ln := by omega
      obtain ⟨y, hy⟩ : ∃ y, l[ln - 1] = y := ⟨_, rfl⟩
      have hyb : y < 65536 := by rw [← hy]; exact HP.out _ (List.getElem_mem _)
      have hlast := ris_last hris (by rw [HLN.out]; omega) n
      simp only [HLN.out] at hlast
      rw [hy] at hcell hlast
      rw [hkk] at hcell
      have HLAST := Lib.hid hlast
      clear hvn hlast hkk hb1 hris hy hk
      by_cases hyn : y < n
      ·have i3 : decide ((n : Int) ≤ (y : Int)) = false := decide_eq_false (by omega)
       obtain ⟨res, hres⟩ : ∃ b, decide (bitsOf (tlN xv l ref r ⟨win, itv, zet⟩) = (B.drop a).take (a2 - a)) = b := ⟨_, rfl⟩
       have AN1 := Lib.hid (AN.out _ _ _ _ _ _ _ T.out pl1 (by rw [HLN.out]; exact hcl) LVl.out HRIS.out)
       rw [hres, HLN.out] at AN1
       have HRES := Lib.hid hres
       clear hres AN PL hpars SK
       go_wp2_with fail
       with_reducible refine AN1.out.mono ?_
       rintro e w8 ⟨rfl, h8⟩
       have T8 := Lib.hid h8
       cases res with
       | true =>
        have HO : Hid (DecP D x d t u w rb s a ks (.returned (.tuple #[.slice (some ⟨g, 0, none⟩) ln capl, .int .i64 0])) w8) := Lib.hid (by
         rw [DC1.out ⟨by trivial, HLN.out, HRIS.out, HLAST.out.2 hyn, of_decide_eq_true HRES.out⟩]
         refine ⟨_, rfl, ?_⟩
         obtain ⟨r1, ks', r2, r3, r4, r5⟩ := (h8.sub HS.out).rr
         rw [HLN.out] at r1
         exact ⟨by rw [HLN.out]; exact r1, ks', r2, r3, r4, r5⟩)
        clear h8 NO
        go_wp2_with fail
        go_ret2
        exact HO.out
       | false =>
        have NO1 := Lib.hid (NO.out (DC2.out (fun h => absurd h.2.2.2.2 (of_decide_eq_false HRES.out))) false l (.slice (some ⟨g, 0, none⟩) ln capl))
        have SK : Hid (Calls Tryd.prog 40 #[.pointer (some ⟨rb, 0, none⟩), .int .i64 (a : Int)] w8 fun en w' => en = .returned (.int .i64 0) ∧ TR x d t u w rb qb s a false ks1 l (.slice (some ⟨g, 0, none⟩) ln capl) w') := Lib.hid (by
         exact h8.seek HDU.out a ha8)
        clear h8 NO
        go_wp2_with fail
        with_reducible refine SK.out.mono ?_
        rintro e wz ⟨rfl, hz⟩
        have HO := Lib.hid (NO1.out wz hz)
        clear hz
        go_wp2_with fail
        go_ret2
        exact HO.out
      ·have i3 : decide ((n : Int) ≤ (y : Int)) = true := decide_eq_true (by omega)
       have NO1 := Lib.hid (NO.out (DC2.out (fun h => hyn (HLAST.out.1 h.2.2.2.1))) false l (.slice (some ⟨g, 0, none⟩) ln capl))
       clear NO SUC AN PL hpars
       go_wp2_with fail
       with_reducible refine SK.out.mono ?_
       rintro e wz ⟨rfl, hz⟩
       have HO := Lib.hid (NO1.out wz hz)
       clear hz
       go_wp2_with fail
       go_ret2
       exact HO.out
   ·have i1 : ((ln : Int) != (deg : Int)) = true := by simp; omega
    have NO1 := Lib.hid (NO.out (DC2.out (fun h => by have := h.2.1; rw [HLN.out] at this; exact hld this)) false l (.slice al ln capl))
    clear NO SUC AN PL
    go_wp2_with fail
    with_reducible refine SK.out.mono ?_
    rintro e wz ⟨rfl, hz⟩
    have HO := Lib.hid (NO1.out wz hz)
    clear hz
    go_wp2_with fail
    go_ret2
    exact HO.out
end Go.Proofs.YtflnpcgnenhogaaDoor.ls
namespace Go.Proofs.YtflnpcgnenhogaaDoor.ls
open Go.RowKit Go.Proofs.YtflnpcgnenhogaaDoor.own Go.Proofs.YtflnpcgnenhogaaDoor.bit

/-- a vertex, its successors, those of its reference, how far back that is, the Params -/
structure One where
 X : Int
 sa : Option Addr
 succ : List Nat
 sc : Nat
 ra : Option Addr
 ref : List Nat
 rc : Nat
 R : Int
 win : Int
 itv : Int
 zet : Int
def One.cells (o : One) : List Value := [.int .i64 o.X, .slice o.sa o.succ.length o.sc, .slice o.ra o.ref.length o.rc, .int .i64 o.R, .int .i64 o.win, .int .i64 o.itv, .int .i64 o.zet]
/-! ### the state -/
theorem FS.grown {w W W2 : World} {wr : Option (Nat × Bits)} {rd : Option (Nat × ByteArray × Nat)} {ks ks' : List (Nat × Obj)} {row : Option Nat} (h : FS w wr rd ks W) (hg : W.grownBy W2 row) (hrow : ∀ g, row = some g → ∃ o, (g, o) ∈ ks)
  (hk' : ∀ p ∈ ks', (p ∈ ks ∧ some p.1 ≠ row) ∨ ((some p.1 = row ∨ W.heap.size ≤ p.1) ∧ W2.heap[p.1]? = some p.2)) : FS w wr rd ks' W2 := by
 obtain ⟨x, hf, hw, hr, hk⟩ := h
 have hcol : ∀ g, row = some g → x g = 4 ∧ g < W.heap.size := fun g e => by
  obtain ⟨o, ho⟩ := hrow g e
  have := hk _ ho
  exact ⟨this.1, lt_of_block this.2⟩
 have f2 : Fr x (paint x W.heap.size 4) (fun e => e = 4) W W2 := Fr.of_steps hg.os hg.tape hg.output hg.size rfl (fun b hb hu => hg.block b hb (fun e => hu (hcol b e.symm).1))
 refine ⟨_, hf.trans (f2.mono (fun c hc => by show c < 50; omega)), fun q e => (hw q e).frame f2 (by decide), fun q e => rdc_frame (hr q e) f2 (by decide), fun p hp => ?_⟩
 rcases hk' p hp with ⟨h1, h2⟩ | ⟨h1, h2⟩
 ·obtain ⟨h3, h4⟩ := hk p h1
  exact ⟨(paint_old (lt_of_block h4)).trans h3, (hg.block _ (lt_of_block h4) h2).trans h4⟩
 ·refine ⟨?_, h2⟩
  rcases h1 with h1 | h1
  ·have := hcol _ h1.symm
   exact (paint_old this.2).trans this.1
  ·exact paint_new h1
theorem FS.sub {w W : World} {wr : Option (Nat × Bits)} {rd : Option (Nat × ByteArray × Nat)} {ks ks' : List (Nat × Obj)} (h : FS w wr rd ks W) (hs : ∀ p ∈ ks', p ∈ ks) : FS w wr rd ks' W := by
 obtain ⟨x, hf, hw, hr, hk⟩ := h
 exact ⟨x, hf, hw, hr, fun p hp => hk p (hs p hp)⟩
end Go.Proofs.YtflnpcgnenhogaaDoor.ls
namespace Go.Proofs.YtflnpcgnenhogaaDoor.ls
open Go.Proofs.YtflnpcgnenhogaaDoor.bit

structure Bp where
 p : Pr
 depth : Nat
 cap : Nat
/-- a list that may be taken, and its chain -/
abbrev Tk := List Nat × Nat
def tkOf (T : List Tk) (ref : Nat) : Tk := T.getD (T.length - ref) ([], 0)
def tkMay (b : Bp) (t : Tk) (size : Nat) : Prop := 0 < t.1.length ∧ t.1.length ≤ b.cap ∧ 0 < size ∧ size ≤ b.cap ∧ t.2 < b.depth
instance (b : Bp) (t : Tk) (size : Nat) : Decidable (tkMay b t size) := by unfold tkMay; exact inferInstance
def backB (b : Bp) (T : List Tk) (ref size : Nat) : Option Tk :=
 if (1 ≤ ref ∧ ref ≤ T.length ∧ ref ≤ b.p.win) ∧ tkMay b (tkOf T ref) size then some (tkOf T ref) else none
/-- one reference tried: the fewest bits so far, the reference, what it says -/
def stepB (b : Bp) (T : List Tk) (succ : List Nat) (s : Nat × Nat × Tk) (r : Nat) : Nat × Nat × Tk :=
 match backB b T r succ.length with
 | none => s
 | some t => if (lay T.length succ t.1 r b.p).length < s.1 then ((lay T.length succ t.1 r b.p).length, r, t) else s
def pick0 (b : Bp) (T : List Tk) (succ : List Nat) : Nat × Nat × Tk := ((lay T.length succ [] 0 b.p).length, 0, ([], 0))
def pickN (b : Bp) (T : List Tk) (succ : List Nat) (n : Nat) : Nat × Nat × Tk := (List.range n).foldl (fun s r => stepB b T succ s (r + 1)) (pick0 b T succ)
def pickB (b : Bp) (T : List Tk) (succ : List Nat) : Nat × Nat × Tk := pickN b T succ b.p.win
theorem pickN_succ (b : Bp) (T : List Tk) (succ : List Nat) (n : Nat) : pickN b T succ (n + 1) = stepB b T succ (pickN b T succ n) (n + 1) := by
 unfold pickN
 rw [List.range_succ, List.foldl_append]
 rfl
def chainOf (q : Nat × Nat × Tk) : Nat := if 0 < q.2.1 then q.2.2.2 + 1 else 0
def addB (b : Bp) (T : List Tk) (succ : List Nat) : Bits := lay T.length succ (pickB b T succ).2.2.1 (pickB b T succ).2.1 b.p
def putB (b : Bp) (T : List Tk) (succ : List Nat) : Tk := (succ, chainOf (pickB b T succ))
def runB (b : Bp) (s : List Tk × Bits) (l : List Nat) : List Tk × Bits := (s.1 ++ [putB b s.1 l], s.2 ++ addB b s.1 l)
def stB (b : Bp) (G : List (List Nat)) : List Tk × Bits := G.foldl (runB b) ([], [])
theorem stB_snoc (b : Bp) (G : List (List Nat)) (l : List Nat) : stB b (G ++ [l]) = runB b (stB b G) l := by
 unfold stB
 rw [List.foldl_append]
 rfl
theorem run_ext (b : Bp) : ∀ (H : List (List Nat)) (s : List Tk × Bits), ∃ T B, H.foldl (runB b) s = (s.1 ++ T, s.2 ++ B) ∧ T.map (·.1) = H
 | [], s => ⟨[], [], by simp, rfl⟩
 | l :: H, s => by
  obtain ⟨T, B, h, h2⟩ := run_ext b H (runB b s l)
  refine ⟨putB b s.1 l :: T, addB b s.1 l ++ B, ?_, by rw [List.map_cons, h2]; rfl⟩
  rw [List.foldl_cons, h]
  show (s.1 ++ [putB b s.1 l] ++ T, s.2 ++ addB b s.1 l ++ B) = _
  rw [List.append_assoc, List.append_assoc]
  rfl
theorem stB_map (b : Bp) (G : List (List Nat)) : (stB b G).1.map (·.1) = G := by
 obtain ⟨T, B, h, h2⟩ := run_ext b G ([], [])
 unfold stB
 rw [h]
 exact h2
theorem stB_length (b : Bp) (G : List (List Nat)) : (stB b G).1.length = G.length := by
 have := congrArg List.length (stB_map b G)
 rwa [List.length_map] at this
theorem stB_take (b : Bp) (G : List (List Nat)) (i : Nat) : ∃ B, (stB b G).2 = (stB b (G.take i)).2 ++ B := by
 obtain ⟨T, B, h, _⟩ := run_ext b (G.drop i) (stB b (G.take i))
 refine ⟨B, ?_⟩
 have e : stB b G = (G.drop i).foldl (runB b) (stB b (G.take i)) := by
  unfold stB
  rw [← List.foldl_append, List.take_append_drop]
 rw [e, h]
theorem stB_at (b : Bp) (G : List (List Nat)) (i : Nat) (hi : i < G.length) : ∃ B, (stB b G).2 = (stB b (G.take i)).2 ++ (addB b (stB b (G.take i)).1 G[i] ++ B) ∧ (stB b (G.take (i + 1))) = runB b (stB b (G.take i)) G[i] := by
 obtain ⟨B, h⟩ := stB_take b G (i + 1)
 have e : stB b (G.take (i + 1)) = runB b (stB b (G.take i)) G[i] := by rw [List.take_succ_eq_append_getElem hi, stB_snoc]
 refine ⟨B, ?_, e⟩
 rw [h, e]
 show (stB b (G.take i)).2 ++ addB b (stB b (G.take i)).1 G[i] ++ B = _
 rw [List.append_assoc]
def TOk (T : List Tk) : Prop := ∀ t ∈ T, Ris t.1
theorem stB_ok (b : Bp) (G : List (List Nat)) (h : ∀ l ∈ G, Ris l) : TOk (stB b G).1 := fun t ht => by
 have : t.1 ∈ (stB b G).1.map (·.1) := List.mem_map_of_mem ht
 rw [stB_map] at this
 exact h _ this
theorem Ris.nil : Ris [] := ⟨List.Pairwise.nil, fun v hv => by cases hv⟩
theorem tkOf_ris {T : List Tk} (h : TOk T) (ref : Nat) : Ris (tkOf T ref).1 := by
 unfold tkOf
 by_cases hl : T.length - ref < T.length
 ·rw [List.getD_eq_getElem?_getD, List.getElem?_eq_getElem hl]
  exact h _ (List.getElem_mem hl)
 ·rw [List.getD_eq_getElem?_getD, List.getElem?_eq_none (by omega)]
  exact Ris.nil
/-- what is picked -/
structure PickOk (b : Bp) (T : List Tk) (succ : List Nat) (q : Nat × Nat × Tk) : Prop where
 len : q.1 = (lay T.length succ q.2.2.1 q.2.1 b.p).length
 le : q.1 ≤ (lay T.length succ [] 0 b.p).length
 by_ : (q.2.1 = 0 ∧ q.2.2 = ([], 0)) ∨ (0 < q.2.1 ∧ backB b T q.2.1 succ.length = some q.2.2)
theorem back_some {b : Bp} {T : List Tk} {ref size : Nat} {t : Tk} (h : backB b T ref size = some t) : 1 ≤ ref ∧ ref ≤ T.length ∧ ref ≤ b.p.win ∧ tkMay b t size ∧ t = tkOf T ref := by
 unfold backB at h
 split at h
 ·rename_i hc
  injection h with h
  subst h
  exact ⟨hc.1.1, hc.1.2.1, hc.1.2.2, hc.2, rfl⟩
 ·cases h
theorem pickN_ok (b : Bp) (T : List Tk) (succ : List Nat) : ∀ n, PickOk b T succ (pickN b T succ n)
 | 0 => ⟨rfl, Nat.le_refl _, .inl ⟨rfl, rfl⟩⟩
 | n + 1 => by
  have h := pickN_ok b T succ n
  rw [pickN_succ]
  unfold stepB
  split
  ·exact h
  ·rename_i t ht
   split
   ·rename_i hlt
    exact ⟨rfl, Nat.le_of_lt (Nat.lt_of_lt_of_le hlt h.le), .inr ⟨Nat.succ_pos _, ht⟩⟩
   ·exact h
theorem pickB_ok (b : Bp) (T : List Tk) (succ : List Nat) : PickOk b T succ (pickB b T succ) := pickN_ok b T succ b.p.win
theorem PickOk.may {b : Bp} {T : List Tk} {succ : List Nat} {q : Nat × Nat × Tk} (h : PickOk b T succ q) (hb : b.p.ok) (hx : T.length < 65536) (hs : Ris succ) (hT : TOk T) : MayN T.length succ q.2.2.1 q.2.1 b.p := by
 rcases h.by_ with ⟨h1, h2⟩ | ⟨h1, h2⟩
 ·rw [h1, h2]
  exact ⟨hb, hx, hs, Ris.nil, Nat.zero_le _, .inr rfl⟩
 ·obtain ⟨_, _, h5, _, h7⟩ := back_some h2
  rw [h7]
  exact ⟨hb, hx, hs, tkOf_ris hT _, h5, .inl h1⟩
theorem plain_may {b : Bp} {T : List Tk} {succ : List Nat} (hb : b.p.ok) (hx : T.length < 65536) (hs : Ris succ) : MayN T.length succ [] 0 b.p := ⟨hb, hx, hs, Ris.nil, Nat.zero_le _, .inr rfl⟩
/-- without a reference the bits are few -/
theorem plain_len {x : Nat} {succ : List Nat} {p : Pr} (hp : p.ok) (hx : x < 65536) (hs : Ris succ) : (lay x succ [] 0 p).length ≤ 120 + 80 * succ.length := by
 have hm : MayN x succ [] 0 p := ⟨hp, hx, hs, Ris.nil, Nat.zero_le _, .inr rfl⟩
 have h1 := (nums_ok hm).1
 have h2 := bits_len_le _ h1
 have hL : Ris (leftOf succ []) := ⟨hs.1.sublist List.filter_sublist, fun v hv => hs.2 v (List.mem_filter.1 hv).1⟩
 have RW := rws_ok p.itv _ hL
 have h3 := RW.perm.length_eq
 rw [List.length_append, sumLen] at h3
 have h4 := apart_len _ _ RW.apart
 have h5 : (leftOf succ []).length ≤ succ.length := List.length_filter_le _ _
 have h6 : (nums x succ [] 0 p).length ≤ 3 + 2 * succ.length := by
  unfold nums hdN tlN runN restN
  rw [List.length_append, List.length_cons, if_neg (Nat.lt_irrefl 0)]
  have e1 : (if succ = [] then ([] : List (Cd × Nat)) else if 0 < p.win then [(Cd.una, 0)] else []).length ≤ 1 := by
   split
   ·simp
   ·split <;> simp
  have e4 : (if leftOf succ [] = [] then ([] : List (Cd × Nat)) else (if 0 < p.itv then [(Cd.gam, (rws p.itv (leftOf succ [])).1.length)] else []) ++ (lnm x p.itv none (rws p.itv (leftOf succ [])).1).map (fun v => (Cd.gam, v)) ++ (znm x none (rws p.itv (leftOf succ [])).2).map (fun v => (Cd.zet p.zet, v))).length ≤ 1 + 2 * succ.length := by
   split
   ·simp
   ·rw [List.length_append, List.length_append, List.length_map, List.length_map, lnm_length, znm_length]
    have e5 : (if 0 < p.itv then [(Cd.gam, (rws p.itv (leftOf succ [])).1.length)] else ([] : List (Cd × Nat))).length ≤ 1 := by split <;> simp
    omega
  have e6 : (if succ = [] then ([] : List (Cd × Nat)) else [] ++ (if leftOf succ [] = [] then ([] : List (Cd × Nat)) else (if 0 < p.itv then [(Cd.gam, (rws p.itv (leftOf succ [])).1.length)] else []) ++ (lnm x p.itv none (rws p.itv (leftOf succ [])).1).map (fun v => (Cd.gam, v)) ++ (znm x none (rws p.itv (leftOf succ [])).2).map (fun v => (Cd.zet p.zet, v)))).length ≤ 1 + 2 * succ.length := by
   split
   ·simp
   ·rw [List.nil_append]; exact e4
  omega
 unfold lay
 omega
theorem addB_len {b : Bp} {T : List Tk} {succ : List Nat} (hb : b.p.ok) (hx : T.length < 65536) (hs : Ris succ) : (addB b T succ).length ≤ 120 + 80 * succ.length := by
 have h := pickB_ok b T succ
 unfold addB
 rw [← h.len]
 exact Nat.le_trans h.le (plain_len hb hx hs)
def edges (G : List (List Nat)) : Nat := sum (G.map (·.length))
theorem edges_snoc (G : List (List Nat)) (l : List Nat) : edges (G ++ [l]) = edges G + l.length := by
 unfold edges
 rw [List.map_append]
 unfold sum
 rw [List.foldr_append]
 show (G.map (·.length)).foldr (· + ·) (l.length + 0) = _
 generalize G.map (·.length) = m
 induction m with
 | nil => simp
 | cons a m ih => rw [List.foldr_cons, ih, List.foldr_cons]; omega
theorem stB_len {b : Bp} (hb : b.p.ok) (G : List (List Nat)) (h : ∀ l ∈ G, Ris l) (hn : G.length ≤ 65536) : ∀ i, i ≤ G.length → (stB b (G.take i)).2.length ≤ 120 * i + 80 * edges (G.take i)
 | 0, _ => by rw [List.take_zero]; exact Nat.zero_le _
 | i + 1, hi => by
  have ih := stB_len hb G h hn i (by omega)
  obtain ⟨B, _, e⟩ := stB_at b G i (by omega)
  rw [e, List.take_succ_eq_append_getElem (by omega), edges_snoc]
  show ((stB b (G.take i)).2 ++ addB b (stB b (G.take i)).1 G[i]).length ≤ _
  rw [List.length_append]
  have hl : (stB b (G.take i)).1.length = i := by rw [stB_length, List.length_take]; omega
  have := addB_len hb (by omega) (h _ (List.getElem_mem (by omega : i < G.length))) (T := (stB b (G.take i)).1)
  omega
/-- the places where the lists begin, and the end -/
def atB (b : Bp) (G : List (List Nat)) (n : Nat) : List Nat := (List.range n).map fun i => (stB b (G.take i)).2.length
theorem atB_succ (b : Bp) (G : List (List Nat)) (n : Nat) : atB b G (n + 1) = atB b G n ++ [(stB b (G.take n)).2.length] := by
 unfold atB
 rw [List.range_succ, List.map_append]
 rfl

/-! ### reading -/
def takenB (b : Bp) (T : List Tk) (deg ref : Nat) : Option Tk := if 0 < ref then (backB b T ref deg).map fun t => (t.1, t.2 + 1) else some ([], 0)
/-- the next list, its chain, the place behind it -/
def nextB (b : Bp) (T : List Tk) (n : Nat) (B : Bits) (a : Nat) : Option (Tk × Nat) :=
 (hread b.p.win B a).bind fun h => (takenB b T h.1 h.2.1).bind fun t => (dec B T.length n h.1 t.1 h.2.1 b.p h.2.2).bind fun q => some ((q.1, t.2), q.2)
theorem dec_lay2 {B R : Bits} {a x n : Nat} {succ ref : List Nat} {r : Nat} {p : Pr} (hm : MayN x succ ref r p) (hn : ∀ v ∈ succ, v < n) (h : B.drop a = lay x succ ref r p ++ R) (h0 : succ = [] → r = 0) :
  dec B x n succ.length ref r p (a + (bitsOf (hdN succ r p)).length) = some (succ, a + (lay x succ ref r p).length) := by
 have hk := (hread_lay hm h).2
 rw [hd_len, ← Nat.add_assoc]
 by_cases hs : succ = []
 ·have e : bitsOf (tlN x succ ref r p) = [] := by unfold tlN; rw [if_pos hs]; rfl
  have hr := h0 hs
  have hrf : ref = [] := hm.2.2.2.2.2.resolve_left (by omega)
  subst hr
  rw [e, hs, hrf, List.length_nil, List.length_nil, Nat.add_zero, dec_zero]
 ·exact dec_back B R x n succ ref r p _ hm hs hn hk
theorem next_ok {b : Bp} {T : List Tk} {n : Nat} {B R : Bits} {a : Nat} {succ : List Nat} (hb : b.p.ok) (hx : T.length < 65536) (hs : Ris succ) (hn : ∀ v ∈ succ, v < n) (hT : TOk T) (h : B.drop a = addB b T succ ++ R) :
  nextB b T n B a = some (putB b T succ, a + (addB b T succ).length) := by
 have P := pickB_ok b T succ
 have hm := P.may hb hx hs hT
 unfold addB at h ⊢
 obtain ⟨q, hq⟩ : ∃ q, pickB b T succ = q := ⟨_, rfl⟩
 unfold putB chainOf
 rw [hq] at P hm h ⊢
 have h1 := (hread_lay hm h).1
 have h0 : succ = [] → q.2.1 = 0 := fun e => by
  rcases P.by_ with h | ⟨_, h⟩
  ·exact h.1
  ·have := (back_some h).2.2.2.1
   unfold tkMay at this
   rw [e, List.length_nil] at this
   omega
 have e0 : (if succ = [] then 0 else q.2.1) = q.2.1 := by
  by_cases e : succ = []
  ·rw [if_pos e, h0 e]
  ·rw [if_neg e]
 rw [e0] at h1
 have h2 : takenB b T succ.length q.2.1 = some (q.2.2.1, if 0 < q.2.1 then q.2.2.2 + 1 else 0) := by
  unfold takenB
  rcases P.by_ with ⟨h3, h4⟩ | ⟨h3, h4⟩
  ·rw [if_neg (by omega), if_neg (by omega), h4]
  ·rw [if_pos h3, if_pos h3, h4]; rfl
 unfold nextB
 rw [h1]
 show (takenB b T succ.length q.2.1).bind _ = _
 rw [h2]
 show (dec B T.length n succ.length q.2.2.1 q.2.1 b.p (a + (bitsOf (hdN succ q.2.1 b.p)).length)).bind _ = _
 rw [dec_lay2 hm hn h h0]
 rfl
/-- there and back, one list further -/
theorem back_ok {b : Bp} (hb : b.p.ok) (G : List (List Nat)) (h : ∀ l ∈ G, Ris l) (hn : G.length ≤ 65536) (hv : ∀ l ∈ G, ∀ v ∈ l, v < G.length) (R : Bits) (i : Nat) (hi : i < G.length) :
  nextB b (stB b (G.take i)).1 G.length ((stB b G).2 ++ R) (stB b (G.take i)).2.length = some (putB b (stB b (G.take i)).1 G[i], (stB b (G.take (i + 1))).2.length) := by
 obtain ⟨B, h1, h2⟩ := stB_at b G i hi
 have hl : (stB b (G.take i)).1.length = i := by rw [stB_length, List.length_take]; omega
 have hm : G[i] ∈ G := List.getElem_mem hi
 have := next_ok (b := b) (T := (stB b (G.take i)).1) (n := G.length) (B := (stB b G).2 ++ R) (R := B ++ R) (a := (stB b (G.take i)).2.length) (succ := G[i]) hb (by omega) (h _ hm) (hv _ hm) (stB_ok b _ (fun l hl => h l (List.mem_of_mem_take hl))) (by
  rw [h1, List.append_assoc, List.drop_left, List.append_assoc])
 rw [this, h2]
 show _ = some (_, ((stB b (G.take i)).2 ++ addB b (stB b (G.take i)).1 G[i]).length)
 rw [List.length_append]

/-! ### not longer than without references -/
def Bp.plain (b : Bp) : Bp := ⟨⟨0, b.p.itv, b.p.zet⟩, b.depth, b.cap⟩
def fullN (G : List (List Nat)) : Nat := (G.filter fun l => decide (0 < l.length)).length
theorem plain_le (x : Nat) (succ : List Nat) (p : Pr) : (lay x succ [] 0 p).length ≤ (lay x succ [] 0 ⟨0, p.itv, p.zet⟩).length + (if 0 < succ.length then 1 else 0) := by
 rw [hd_len, hd_len]
 have e : tlN x succ [] 0 p = tlN x succ [] 0 ⟨0, p.itv, p.zet⟩ := rfl
 rw [e]
 have e2 : (bitsOf (hdN succ 0 p)).length ≤ (bitsOf (hdN succ 0 ⟨0, p.itv, p.zet⟩)).length + (if 0 < succ.length then 1 else 0) := by
  unfold hdN
  by_cases hs : succ = []
  ·rw [if_pos hs, if_pos hs]; exact Nat.le_add_right _ _
  ·rw [if_neg hs, if_neg hs, if_neg (Nat.lt_irrefl 0), if_pos (List.length_pos_iff.2 hs)]
   by_cases hw : 0 < p.win
   ·rw [if_pos hw, bitsOf_cons, bitsOf_cons, bitsOf_cons, bitsOf_nil, List.append_nil, List.append_nil, List.length_append]
    have : (cb .una 0).length = 1 := by decide
    omega
   ·rw [if_neg hw]; exact Nat.le_add_right _ _
 omega
theorem plain_add (b : Bp) (T : List Tk) (succ : List Nat) : addB b.plain T succ = lay T.length succ [] 0 ⟨0, b.p.itv, b.p.zet⟩ := rfl
theorem fullN_snoc (G : List (List Nat)) (l : List Nat) : fullN (G ++ [l]) = fullN G + (if 0 < l.length then 1 else 0) := by
 unfold fullN
 rw [List.filter_append, List.length_append]
 congr 1
 by_cases h : 0 < l.length <;> simp [h]
theorem plain_all (b : Bp) (G : List (List Nat)) : ∀ i, i ≤ G.length → (stB b (G.take i)).2.length ≤ (stB b.plain (G.take i)).2.length + fullN (G.take i)
 | 0, _ => by rw [List.take_zero]; exact Nat.zero_le _
 | i + 1, hi => by
  have ih := plain_all b G i (by omega)
  obtain ⟨_, _, e1⟩ := stB_at b G i (by omega)
  obtain ⟨_, _, e2⟩ := stB_at b.plain G i (by omega)
  have hl : (stB b (G.take i)).1.length = i := by rw [stB_length, List.length_take]; omega
  have hl2 : (stB b.plain (G.take i)).1.length = i := by rw [stB_length, List.length_take]; omega
  rw [e1, e2, List.take_succ_eq_append_getElem (by omega), fullN_snoc]
  show ((stB b (G.take i)).2 ++ addB b (stB b (G.take i)).1 G[i]).length ≤ ((stB b.plain (G.take i)).2 ++ addB b.plain (stB b.plain (G.take i)).1 G[i]).length + _
  rw [List.length_append, List.length_append, plain_add]
  have h1 := (pickB_ok b (stB b (G.take i)).1 G[i])
  have h2 : (addB b (stB b (G.take i)).1 G[i]).length ≤ (lay i G[i] [] 0 b.p).length := by
   unfold addB
   rw [← h1.len]
   have := h1.le
   rwa [hl] at this
  have h3 := plain_le i G[i] b.p
  rw [hl2]
  omega
end Go.Proofs.YtflnpcgnenhogaaDoor.ls
namespace Go.Proofs.YtflnpcgnenhogaaDoor.ls
open Go.RowKit Go.Proofs.YtflnpcgnenhogaaDoor.own Go.Proofs.YtflnpcgnenhogaaDoor.bit

def bpV (win dep itv zet cap : Int) : Value := .agg #[.int .i64 win, .int .i64 dep, .int .i64 itv, .int .i64 zet, .int .i64 cap]
def BpOk (win dep itv zet cap : Int) : Prop := ParOk win itv zet ∧ 0 ≤ dep ∧ dep ≤ 16 ∧ 0 ≤ cap ∧ cap ≤ 65536
instance (win dep itv zet cap : Int) : Decidable (BpOk win dep itv zet cap) := by unfold BpOk; exact inferInstance
set_option maxRecDepth 100000 in
theorem blist_any (win dep itv zet cap : Int) (w : World) : Calls Tryd.prog 78 #[bpV win dep itv zet cap] w fun e w' => e = .returned (parV win itv zet) ∧ Below w.heap.size w w' := by
 unfold bpV
 go_enter Tryd.func78, Tryd.ntmps78
 go_wp2_with fail
 generalize hW : World.alloc (World.alloc w _) _ = W0
 obtain ⟨r1, r2, kb⟩ := rows2 hW
 have q0 : W0.cell? ⟨w.heap.size + 1, 0, none⟩ = some (.int .i64 win) := by rw [cell_of_row _ _ _ _ _ _ r2]; rfl
 have q1 : W0.cell? ⟨w.heap.size + 1, 1, none⟩ = some (.int .i64 itv) := by rw [cell_of_row _ _ _ _ _ _ r2]; rfl
 have q2 : W0.cell? ⟨w.heap.size + 1, 2, none⟩ = some (.int .i64 zet) := by rw [cell_of_row _ _ _ _ _ _ r2]; rfl
 exact bodyPost_ret (v := .agg #[.int .i64 win, .int .i64 itv, .int .i64 zet]) (by simp [results, Tryd.results78, go_sem, q0, q1, q2]) rfl ⟨rfl, kb⟩
set_option maxRecDepth 100000 in
theorem dblist_any (win dep itv zet cap : Int) (w : World) : Calls Tryd.prog 45 #[bpV win dep itv zet cap] w fun e w' => e = .returned (parV win itv zet) ∧ Below w.heap.size w w' := by
 unfold bpV
 go_enter Tryd.func45, Tryd.ntmps45
 go_wp2_with fail
 generalize hW : World.alloc (World.alloc w _) _ = W0
 obtain ⟨r1, r2, kb⟩ := rows2 hW
 have q0 : W0.cell? ⟨w.heap.size + 1, 0, none⟩ = some (.int .i64 win) := by rw [cell_of_row _ _ _ _ _ _ r2]; rfl
 have q1 : W0.cell? ⟨w.heap.size + 1, 1, none⟩ = some (.int .i64 itv) := by rw [cell_of_row _ _ _ _ _ _ r2]; rfl
 have q2 : W0.cell? ⟨w.heap.size + 1, 2, none⟩ = some (.int .i64 zet) := by rw [cell_of_row _ _ _ _ _ _ r2]; rfl
 exact bodyPost_ret (v := .agg #[.int .i64 win, .int .i64 itv, .int .i64 zet]) (by simp [results, Tryd.results45, go_sem, q0, q1, q2]) rfl ⟨rfl, kb⟩
set_option maxRecDepth 100000 in
theorem bown_any (win dep itv zet cap : Int) (w : World) : Calls Tryd.prog 28 #[bpV win dep itv zet cap] w fun e w' => e = .returned (bpV win dep itv zet cap) ∧ Below w.heap.size w w' := by
 unfold bpV
 go_enter Tryd.func28, Tryd.ntmps28
 go_wp2_with fail
 generalize hW : World.alloc (World.alloc w _) _ = W0
 obtain ⟨r1, r2, kb⟩ := rows2 hW
 have q0 : W0.cell? ⟨w.heap.size + 1, 0, none⟩ = some (.int .i64 win) := by rw [cell_of_row _ _ _ _ _ _ r2]; rfl
 have q1 : W0.cell? ⟨w.heap.size + 1, 1, none⟩ = some (.int .i64 dep) := by rw [cell_of_row _ _ _ _ _ _ r2]; rfl
 have q2 : W0.cell? ⟨w.heap.size + 1, 2, none⟩ = some (.int .i64 itv) := by rw [cell_of_row _ _ _ _ _ _ r2]; rfl
 have q3 : W0.cell? ⟨w.heap.size + 1, 3, none⟩ = some (.int .i64 zet) := by rw [cell_of_row _ _ _ _ _ _ r2]; rfl
 have q4 : W0.cell? ⟨w.heap.size + 1, 4, none⟩ = some (.int .i64 cap) := by rw [cell_of_row _ _ _ _ _ _ r2]; rfl
 exact bodyPost_ret (v := .agg #[.int .i64 win, .int .i64 dep, .int .i64 itv, .int .i64 zet, .int .i64 cap]) (by simp [results, Tryd.results28, go_sem, q0, q1, q2, q3, q4]) rfl ⟨rfl, kb⟩
set_option maxRecDepth 100000 in
set_option maxHeartbeats 3200000 in
theorem bcheck_any (win dep itv zet cap : Int) (w : World) : Calls Tryd.prog 52 #[bpV win dep itv zet cap] w fun e w' => e = .returned (.int .i64 (if BpOk win dep itv zet cap then 0 else 1)) ∧ Below w.heap.size w w' := by
 obtain ⟨k, hk⟩ : ∃ k : Int, (if BpOk win dep itv zet cap then 0 else 1) = k := ⟨_, rfl⟩
 rw [hk]
 have HK := Lib.hid hk
 clear hk
 have YES : Hid (BpOk win dep itv zet cap → k = 0) := Lib.hid (fun h => by have := HK.out; rw [if_pos h] at this; exact this.symm)
 have NO : Hid (¬ BpOk win dep itv zet cap → k = 1) := Lib.hid (fun h => by have := HK.out; rw [if_neg h] at this; exact this.symm)
 clear HK
 have BL := Lib.hid (fun W => blist_any win dep itv zet cap W)
 have CK := Lib.hid (fun W => pcheck_any win itv zet W)
 unfold bpV at BL
 by_cases h1 : dep < 0
 ·
  obtain rfl := NO.out (fun h => by have := h.2.1; omega)
  clear YES NO
  unfold bpV
  go_enter Tryd.func52, Tryd.ntmps52
  go_wp2_with fail
  go_ret
  exact ⟨rfl, (by repeat (first | exact Below.refl _ _ | refine below_drewN ?_ _ | refine Below.setCell ?_ (by simp; try omega) _ | refine Below.alloc ?_ (by simp; try omega) _))⟩
 by_cases h2 : 16 < dep
 ·
  obtain rfl := NO.out (fun h => by have := h.2.2.1; omega)
  clear YES NO
  unfold bpV
  go_enter Tryd.func52, Tryd.ntmps52
  go_wp2_with fail
  go_ret
  exact ⟨rfl, (by repeat (first | exact Below.refl _ _ | refine below_drewN ?_ _ | refine Below.setCell ?_ (by simp; try omega) _ | refine Below.alloc ?_ (by simp; try omega) _))⟩
 by_cases h3 : cap < 0
 ·
  obtain rfl := NO.out (fun h => by have := h.2.2.2.1; omega)
  clear YES NO
  unfold bpV
  go_enter Tryd.func52, Tryd.ntmps52
  go_wp2_with fail
  go_ret
  exact ⟨rfl, (by repeat (first | exact Below.refl _ _ | refine below_drewN ?_ _ | refine Below.setCell ?_ (by simp; try omega) _ | refine Below.alloc ?_ (by simp; try omega) _))⟩
 by_cases h4 : 65536 < cap
 ·
  obtain rfl := NO.out (fun h => by have := h.2.2.2.2; omega)
  clear YES NO
  unfold bpV
  go_enter Tryd.func52, Tryd.ntmps52
  go_wp2_with fail
  go_ret
  exact ⟨rfl, (by repeat (first | exact Below.refl _ _ | refine below_drewN ?_ _ | refine Below.setCell ?_ (by simp; try omega) _ | refine Below.alloc ?_ (by simp; try omega) _))⟩
 have E : Hid ((if ParOk win itv zet then (0 : Int) else 1) = k) := Lib.hid (by
  by_cases hp : ParOk win itv zet
  ·rw [if_pos hp, YES.out ⟨hp, by omega, by omega, by omega, by omega⟩]
  ·rw [if_neg hp, NO.out (fun h => hp h.1)])
 rw [E.out] at CK
 clear YES NO
 unfold bpV
 go_enter Tryd.func52, Tryd.ntmps52
 go_wp2_with fail
 have kb : Below w.heap.size w (w.alloc (.cells #[.int .i64 win, .int .i64 dep, .int .i64 itv, .int .i64 zet, .int .i64 cap] 70)) := (by repeat (first | exact Below.refl _ _ | refine below_drewN ?_ _ | refine Below.setCell ?_ (by simp; try omega) _ | refine Below.alloc ?_ (by simp; try omega) _))
 with_reducible refine (BL.out _).mono ?_
 rintro e w1 ⟨rfl, k1⟩
 have K1 := Lib.hid (kb.trans (k1.mono kb.size))
 clear k1 kb
 go_wp2_with fail
 with_reducible refine (CK.out _).mono ?_
 rintro e w2 ⟨rfl, k2⟩
 have K2 := Lib.hid (K1.out.trans (k2.mono K1.out.size))
 clear k2
 go_wp2_with fail
 go_ret
 exact ⟨rfl, K2.out⟩
set_option maxRecDepth 100000 in
set_option maxHeartbeats 3200000 in
theorem dbcheck_any (win dep itv zet cap : Int) (w : World) : Calls Tryd.prog 26 #[bpV win dep itv zet cap] w fun e w' => e = .returned (.int .i64 (if BpOk win dep itv zet cap then 0 else 1)) ∧ Below w.heap.size w w' := by
 obtain ⟨k, hk⟩ : ∃ k : Int, (if BpOk win dep itv zet cap then 0 else 1) = k := ⟨_, rfl⟩
 rw [hk]
 have HK := Lib.hid hk
 clear hk
 have YES : Hid (BpOk win dep itv zet cap → k = 0) := Lib.hid (fun h => by have := HK.out; rw [if_pos h] at this; exact this.symm)
 have NO : Hid (¬ BpOk win dep itv zet cap → k = 1) := Lib.hid (fun h => by have := HK.out; rw [if_neg h] at this; exact this.symm)
 clear HK
 have BL := Lib.hid (fun W => dblist_any win dep itv zet cap W)
 have CK := Lib.hid (fun W => dcheck_any win itv zet W)
 unfold bpV at BL
 by_cases hp : ParOk win itv zet
 ·rw [if_pos hp] at CK
  by_cases h1 : dep < 0
  ·
   obtain rfl := NO.out (fun h => by have := h.2.1; omega)
   clear YES NO
   unfold bpV
   go_enter Tryd.func26, Tryd.ntmps26
   go_wp2_with fail
   have kb : Below w.heap.size w (w.alloc (.cells #[.int .i64 win, .int .i64 dep, .int .i64 itv, .int .i64 zet, .int .i64 cap] 64)) := (by repeat (first | exact Below.refl _ _ | refine below_drewN ?_ _ | refine Below.setCell ?_ (by simp; try omega) _ | refine Below.alloc ?_ (by simp; try omega) _))
   have r1 := heap_alloc_new w (.cells #[.int .i64 win, .int .i64 dep, .int .i64 itv, .int .i64 zet, .int .i64 cap] 64)
   with_reducible refine (BL.out _).mono ?_
   rintro e w1 ⟨rfl, k1⟩
   have r1 := (k1.block _ (lt_of_block r1)).trans r1
   have kb := kb.trans (k1.mono kb.size)
   go_wp2_with fail
   with_reducible refine (CK.out _).mono ?_
   rintro e w2 ⟨rfl, k2⟩
   have r1 := (k2.block _ (lt_of_block r1)).trans r1
   have K2 := Lib.hid (kb.trans (k2.mono kb.size))
   have c1 : w2.cell? ⟨w.heap.size, 1, none⟩ = some (.int .i64 dep) := by rw [cell_of_row _ _ _ _ _ _ r1]; rfl
   have c4 : w2.cell? ⟨w.heap.size, 4, none⟩ = some (.int .i64 cap) := by rw [cell_of_row _ _ _ _ _ _ r1]; rfl
   clear k1 k2 kb r1
   go_wp2_with fail
   go_ret
   exact ⟨rfl, K2.out⟩
  by_cases h2 : 16 < dep
  ·
   obtain rfl := NO.out (fun h => by have := h.2.2.1; omega)
   clear YES NO
   unfold bpV
   go_enter Tryd.func26, Tryd.ntmps26
   go_wp2_with fail
   have kb : Below w.heap.size w (w.alloc (.cells #[.int .i64 win, .int .i64 dep, .int .i64 itv, .int .i64 zet, .int .i64 cap] 64)) := (by repeat (first | exact Below.refl _ _ | refine below_drewN ?_ _ | refine Below.setCell ?_ (by simp; try omega) _ | refine Below.alloc ?_ (by simp; try omega) _))
   have r1 := heap_alloc_new w (.cells #[.int .i64 win, .int .i64 dep, .int .i64 itv, .int .i64 zet, .int .i64 cap] 64)
   with_reducible refine (BL.out _).mono ?_
   rintro e w1 ⟨rfl, k1⟩
   have r1 := (k1.block _ (lt_of_block r1)).trans r1
   have kb := kb.trans (k1.mono kb.size)
   go_wp2_with fail
   with_reducible refine (CK.out _).mono ?_
   rintro e w2 ⟨rfl, k2⟩
   have r1 := (k2.block _ (lt_of_block r1)).trans r1
   have K2 := Lib.hid (kb.trans (k2.mono kb.size))
   have c1 : w2.cell? ⟨w.heap.size, 1, none⟩ = some (.int .i64 dep) := by rw [cell_of_row _ _ _ _ _ _ r1]; rfl
   have c4 : w2.cell? ⟨w.heap.size, 4, none⟩ = some (.int .i64 cap) := by rw [cell_of_row _ _ _ _ _ _ r1]; rfl
   clear k1 k2 kb r1
   go_wp2_with fail
   go_ret
   exact ⟨rfl, K2.out⟩
  by_cases h3 : cap < 0
  ·
   obtain rfl := NO.out (fun h => by have := h.2.2.2.1; omega)
   clear YES NO
   unfold bpV
   go_enter Tryd.func26, Tryd.ntmps26
   go_wp2_with fail
   have kb : Below w.heap.size w (w.alloc (.cells #[.int .i64 win, .int .i64 dep, .int .i64 itv, .int .i64 zet, .int .i64 cap] 64)) := (by repeat (first | exact Below.refl _ _ | refine below_drewN ?_ _ | refine Below.setCell ?_ (by simp; try omega) _ | refine Below.alloc ?_ (by simp; try omega) _))
   have r1 := heap_alloc_new w (.cells #[.int .i64 win, .int .i64 dep, .int .i64 itv, .int .i64 zet, .int .i64 cap] 64)
   with_reducible refine (BL.out _).mono ?_
   rintro e w1 ⟨rfl, k1⟩
   have r1 := (k1.block _ (lt_of_block r1)).trans r1
   have kb := kb.trans (k1.mono kb.size)
   go_wp2_with fail
   with_reducible refine (CK.out _).mono ?_
   rintro e w2 ⟨rfl, k2⟩
   have r1 := (k2.block _ (lt_of_block r1)).trans r1
   have K2 := Lib.hid (kb.trans (k2.mono kb.size))
   have c1 : w2.cell? ⟨w.heap.size, 1, none⟩ = some (.int .i64 dep) := by rw [cell_of_row _ _ _ _ _ _ r1]; rfl
   have c4 : w2.cell? ⟨w.heap.size, 4, none⟩ = some (.int .i64 cap) := by rw [cell_of_row _ _ _ _ _ _ r1]; rfl
   clear k1 k2 kb r1
   go_wp2_with fail
   go_ret
   exact ⟨rfl, K2.out⟩
  by_cases h4 : 65536 < cap
  ·
   obtain rfl := NO.out (fun h => by have := h.2.2.2.2; omega)
   clear YES NO
   unfold bpV
   go_enter Tryd.func26, Tryd.ntmps26
   go_wp2_with fail
   have kb : Below w.heap.size w (w.alloc (.cells #[.int .i64 win, .int .i64 dep, .int .i64 itv, .int .i64 zet, .int .i64 cap] 64)) := (by repeat (first | exact Below.refl _ _ | refine below_drewN ?_ _ | refine Below.setCell ?_ (by simp; try omega) _ | refine Below.alloc ?_ (by simp; try omega) _))
   have r1 := heap_alloc_new w (.cells #[.int .i64 win, .int .i64 dep, .int .i64 itv, .int .i64 zet, .int .i64 cap] 64)
   with_reducible refine (BL.out _).mono ?_
   rintro e w1 ⟨rfl, k1⟩
   have r1 := (k1.block _ (lt_of_block r1)).trans r1
   have kb := kb.trans (k1.mono kb.size)
   go_wp2_with fail
   with_reducible refine (CK.out _).mono ?_
   rintro e w2 ⟨rfl, k2⟩
   have r1 := (k2.block _ (lt_of_block r1)).trans r1
   have K2 := Lib.hid (kb.trans (k2.mono kb.size))
   have c1 : w2.cell? ⟨w.heap.size, 1, none⟩ = some (.int .i64 dep) := by rw [cell_of_row _ _ _ _ _ _ r1]; rfl
   have c4 : w2.cell? ⟨w.heap.size, 4, none⟩ = some (.int .i64 cap) := by rw [cell_of_row _ _ _ _ _ _ r1]; rfl
   clear k1 k2 kb r1
   go_wp2_with fail
   go_ret
   exact ⟨rfl, K2.out⟩
  obtain rfl := YES.out ⟨hp, by omega, by omega, by omega, by omega⟩
  clear YES NO
  unfold bpV
  go_enter Tryd.func26, Tryd.ntmps26
  go_wp2_with fail
  have kb : Below w.heap.size w (w.alloc (.cells #[.int .i64 win, .int .i64 dep, .int .i64 itv, .int .i64 zet, .int .i64 cap] 64)) := (by repeat (first | exact Below.refl _ _ | refine below_drewN ?_ _ | refine Below.setCell ?_ (by simp; try omega) _ | refine Below.alloc ?_ (by simp; try omega) _))
  have r1 := heap_alloc_new w (.cells #[.int .i64 win, .int .i64 dep, .int .i64 itv, .int .i64 zet, .int .i64 cap] 64)
  with_reducible refine (BL.out _).mono ?_
  rintro e w1 ⟨rfl, k1⟩
  have r1 := (k1.block _ (lt_of_block r1)).trans r1
  have kb := kb.trans (k1.mono kb.size)
  go_wp2_with fail
  with_reducible refine (CK.out _).mono ?_
  rintro e w2 ⟨rfl, k2⟩
  have r1 := (k2.block _ (lt_of_block r1)).trans r1
  have K2 := Lib.hid (kb.trans (k2.mono kb.size))
  have c1 : w2.cell? ⟨w.heap.size, 1, none⟩ = some (.int .i64 dep) := by rw [cell_of_row _ _ _ _ _ _ r1]; rfl
  have c4 : w2.cell? ⟨w.heap.size, 4, none⟩ = some (.int .i64 cap) := by rw [cell_of_row _ _ _ _ _ _ r1]; rfl
  clear k1 k2 kb r1
  go_wp2_with fail
  go_ret
  exact ⟨rfl, K2.out⟩
 ·rw [if_neg hp] at CK
  obtain rfl := NO.out (fun h => hp h.1)
  clear YES NO
  unfold bpV
  go_enter Tryd.func26, Tryd.ntmps26
  go_wp2_with fail
  have kb : Below w.heap.size w (w.alloc (.cells #[.int .i64 win, .int .i64 dep, .int .i64 itv, .int .i64 zet, .int .i64 cap] 64)) := (by repeat (first | exact Below.refl _ _ | refine below_drewN ?_ _ | refine Below.setCell ?_ (by simp; try omega) _ | refine Below.alloc ?_ (by simp; try omega) _))
  have r1 := heap_alloc_new w (.cells #[.int .i64 win, .int .i64 dep, .int .i64 itv, .int .i64 zet, .int .i64 cap] 64)
  with_reducible refine (BL.out _).mono ?_
  rintro e w1 ⟨rfl, k1⟩
  have r1 := (k1.block _ (lt_of_block r1)).trans r1
  have kb := kb.trans (k1.mono kb.size)
  go_wp2_with fail
  with_reducible refine (CK.out _).mono ?_
  rintro e w2 ⟨rfl, k2⟩
  have r1 := (k2.block _ (lt_of_block r1)).trans r1
  have K2 := Lib.hid (kb.trans (k2.mono kb.size))
  have c1 : w2.cell? ⟨w.heap.size, 1, none⟩ = some (.int .i64 dep) := by rw [cell_of_row _ _ _ _ _ _ r1]; rfl
  have c4 : w2.cell? ⟨w.heap.size, 4, none⟩ = some (.int .i64 cap) := by rw [cell_of_row _ _ _ _ _ _ r1]; rfl
  clear k1 k2 kb r1
  go_wp2_with fail
  go_ret
  exact ⟨rfl, K2.out⟩
end Go.Proofs.YtflnpcgnenhogaaDoor.ls
namespace Go.Proofs.YtflnpcgnenhogaaDoor.ls
open Go.RowKit Go.Proofs.YtflnpcgnenhogaaDoor.own Go.Proofs.YtflnpcgnenhogaaDoor.bit

/-- a list stands in blocks of these -/
def Stands (ls : List (Nat × Obj)) (s : Option Addr) (l : List Nat) : Prop := ∀ W : World, (∀ p ∈ ls, W.heap[p.1]? = some p.2) → LV W s l
theorem Stands.more {ls ls' : List (Nat × Obj)} {s : Option Addr} {l : List Nat} (h : Stands ls s l) (hs : ∀ p ∈ ls, p ∈ ls') : Stands ls' s l := fun W hW => h W (fun p hp => hW p (hs p hp))
def Slot (ls : List (Nat × Obj)) (t : Tk) (v u : Value) : Prop := ∃ s d, v = .slice s t.1.length d ∧ u = .int .i64 (t.2 : Int) ∧ t.1.length ≤ d ∧ Stands ls s t.1
/-- the ring lies in a row from o on -/
def Ring (T : List Tk) (row : Array Value) (o : Nat) (ls : List (Nat × Obj)) : Prop :=
 o + 35 ≤ row.size ∧ row[o + 34]? = some (.int .i64 (T.length : Int)) ∧ (∀ k, k < 17 → ∃ s n d c, row[o + 2 * k]? = some (.slice s n d) ∧ row[o + 2 * k + 1]? = some (.int .i64 c)) ∧
 ∀ j (h : j < T.length), T.length ≤ j + 17 → ∃ v u, row[o + 2 * (j % 17)]? = some v ∧ row[o + 2 * (j % 17) + 1]? = some u ∧ Slot ls T[j] v u
theorem Ring.more {T : List Tk} {row : Array Value} {o : Nat} {ls ls' : List (Nat × Obj)} (h : Ring T row o ls) (hs : ∀ p ∈ ls, p ∈ ls') : Ring T row o ls' := by
 obtain ⟨h1, h2, h3, h4⟩ := h
 refine ⟨h1, h2, h3, fun j hj hl => ?_⟩
 obtain ⟨v, u, e1, e2, s, d, e3, e4, e5, e6⟩ := h4 j hj hl
 exact ⟨v, u, e1, e2, s, d, e3, e4, e5, e6.more hs⟩
/-- the ring's answer -/
def BackP (b : Bp) (T : List Tk) (ref : Int) (size : Nat) (ls : List (Nat × Obj)) (w : World) (e : Ending) (w' : World) : Prop :=
 Below w.heap.size w w' ∧ ∃ v u bb, e = .returned (.tuple #[.agg #[v, u], .bool bb]) ∧ (∃ s n d c, v = .slice s n d ∧ u = .int .i64 c) ∧ (match (if 0 ≤ ref then backB b T ref.toNat size else none) with | none => bb = false | some t => bb = true ∧ Slot ls t v u)
/-- a pair of cells written over, new since b -/
theorem set2 {W w : World} {b z : Nat} {x y : Value} {T : TypeId} (u v : Value) (h : W.heap[b]? = some (.cells #[x, y] T (0, 0))) (hb : z ≤ b) (k : Below z w W) :
  ((W.setCell ⟨b, 0, none⟩ u).setCell ⟨b, 1, none⟩ v).heap[b]? = some (.cells #[u, v] T (0, 0)) ∧ Below z w ((W.setCell ⟨b, 0, none⟩ u).setCell ⟨b, 1, none⟩ v) := by
 have h1 := heap_setCell_same W b 0 _ _ u h
 have h2 := heap_setCell_same _ b 1 _ _ v h1
 exact ⟨h2, (k.setCell hb u).setCell hb v⟩
set_option maxRecDepth 100000 in
set_option maxHeartbeats 6400000 in
theorem back_any (b : Bp) (T : List Tk) (ref : Int) (size : Nat) (ls : List (Nat × Obj)) (w : World) (rb o : Nat) (row : Array Value) (U : TypeId) (hrow : w.heap[rb]? = some (.cells row U (0, 0))) (hR : Ring T row o ls) (hT : T.length ≤ 65536) (hb : b.p.win ≤ 16) (hsz : size ≤ 4611686018427387903) (hls : ∀ t ∈ T, t.1.length ≤ 65536) :
  Calls Tryd.prog 80 #[.pointer (some ⟨rb, o, none⟩), .int .i64 ref, .int .i64 (size : Int), bpV (b.p.win : Int) (b.depth : Int) (b.p.itv : Int) (b.p.zet : Int) (b.cap : Int)] w (BackP b T ref size ls w) := by
 have NO : Hid ((ref < 1 ∨ (T.length : Int) < ref ∨ (b.p.win : Int) < ref) → ∀ w', Below w.heap.size w w' → BackP b T ref size ls w (.returned (.tuple #[.agg #[.slice none 0 0, .int .i64 0], .bool false])) w') := Lib.hid (fun hno w' k => ⟨k, _, _, false, rfl, ⟨none, 0, 0, 0, rfl, rfl⟩, by
  have e : (if 0 ≤ ref then backB b T ref.toNat size else none) = none := by
   split
   ·unfold backB
    rw [if_neg (fun h => by omega)]
   ·rfl
  rw [e]⟩)
 have c0 : w.cell? ⟨rb, o + 34, none⟩ = some (.int .i64 (T.length : Int)) := by rw [cell_of_row _ _ _ _ _ _ hrow]; exact hR.2.1
 have hlt := lt_of_block hrow
 have HR := Lib.hid (And.intro hrow hR)
 have HT := Lib.hid (show T.length = T.length from rfl)
 have HLS := Lib.hid hls
 obtain ⟨nt, hnt⟩ : ∃ n, T.length = n := ⟨_, rfl⟩
 obtain ⟨wn, hwn⟩ : ∃ n, b.p.win = n := ⟨_, rfl⟩
 have HN := Lib.hid (And.intro hnt hwn)
 rw [hnt] at c0 hT NO
 rw [hwn] at hb NO ⊢
 clear hrow hR hnt hwn hls
 unfold bpV
 go_enter Tryd.func80, Tryd.ntmps80
 go_upto_region 1 with fail
 generalize hW : World.alloc (World.alloc w _) _ = W1
 obtain ⟨r1, r2, kb⟩ := rows2 hW
 have p0 : W1.cell? ⟨w.heap.size, 0, none⟩ = some (.int .i64 (wn : Int)) := by rw [cell_of_row _ _ _ _ _ _ r1]; rfl
 have c0 : W1.cell? ⟨rb, o + 34, none⟩ = some (.int .i64 (nt : Int)) := (kb.cell hlt).trans c0
 have R12 := Lib.hid (And.intro r1 (And.intro r2 kb))
 clear hW r1 r2 kb
 obtain ⟨wz, hwz⟩ : ∃ z, w.heap.size = z := ⟨_, rfl⟩
 rw [hwz] at R12 p0 hlt ⊢
 have F1 : ∀ q j, (W1.drewN q).frozen? ⟨wz + 1, j, none⟩ = false := fun q j => frozen_of_row (W1.drewN q) (wz + 1) j _ _ R12.out.2.1
 by_cases h1 : ref < 1
 ·have i1 : decide (ref < 1) = true := decide_eq_true h1
  go_quiet (fail)
  have R3 : Hid ((W1.drewN nq).heap[wz + 1]? = some (.cells #[.slice none 0 0, .int .i64 0] 113 (0, 0)) ∧ Below wz w (W1.drewN nq)) := Lib.hid ⟨R12.out.2.1, R12.out.2.2.trans ⟨rfl, rfl, rfl, Nat.le_refl _, fun _ _ => rfl⟩⟩
  have f1 := F1 nq 0
  have f2 := F1 nq 1
  have q0 : (W1.drewN nq).cell? ⟨wz + 1, 0, none⟩ = some (.slice none 0 0) := by rw [cell_of_row _ _ _ _ _ _ R3.out.1]; rfl
  have q1 : (W1.drewN nq).cell? ⟨wz + 1, 1, none⟩ = some (.int .i64 0) := by rw [cell_of_row _ _ _ _ _ _ R3.out.1]; rfl
  generalize W1.drewN nq = W2 at R3 f1 f2 q0 q1 ⊢
  clear F1 R12 c0 p0
  go_wp2_with fail
  obtain ⟨r8, k8⟩ := set2 (.slice none 0 0) (.int .i64 0) R3.out.1 (Nat.le_succ _) R3.out.2
  generalize hW8 : World.setCell (World.setCell W2 _ _) _ _ = W8 at r8 k8 ⊢
  have q0' : W8.cell? ⟨wz + 1, 0, none⟩ = some (.slice none 0 0) := by rw [cell_of_row _ _ _ _ _ _ r8]; rfl
  have q1' : W8.cell? ⟨wz + 1, 1, none⟩ = some (.int .i64 0) := by rw [cell_of_row _ _ _ _ _ _ r8]; rfl
  clear hW8 f1 f2 q0 q1
  exact bodyPost_ret (v := .tuple #[.agg #[.slice none 0 0, .int .i64 0], .bool false]) (by simp [results, Tryd.results80, go_sem, q0', q1']) rfl (NO.out (.inl h1) W8 (by rw [hwz]; exact k8))
 ·have i1 : decide (ref < 1) = false := decide_eq_false h1
  obtain ⟨mn, hmn⟩ : ∃ z, min (nt : Int) (wn : Int) = z := ⟨_, rfl⟩
  by_cases h2 : mn < ref
  ·have i2 : decide (mn < ref) = true := decide_eq_true h2
   go_quiet (fail)
   have R3 : Hid ((W1.drewN nq).heap[wz + 1]? = some (.cells #[.slice none 0 0, .int .i64 0] 113 (0, 0)) ∧ Below wz w (W1.drewN nq)) := Lib.hid ⟨R12.out.2.1, R12.out.2.2.trans ⟨rfl, rfl, rfl, Nat.le_refl _, fun _ _ => rfl⟩⟩
   have f1 := F1 nq 0
   have f2 := F1 nq 1
   have q0 : (W1.drewN nq).cell? ⟨wz + 1, 0, none⟩ = some (.slice none 0 0) := by rw [cell_of_row _ _ _ _ _ _ R3.out.1]; rfl
   have q1 : (W1.drewN nq).cell? ⟨wz + 1, 1, none⟩ = some (.int .i64 0) := by rw [cell_of_row _ _ _ _ _ _ R3.out.1]; rfl
   generalize W1.drewN nq = W2 at R3 f1 f2 q0 q1 ⊢
   clear F1 R12 c0 p0
   go_wp2_with fail
   obtain ⟨r8, k8⟩ := set2 (.slice none 0 0) (.int .i64 0) R3.out.1 (Nat.le_succ _) R3.out.2
   generalize hW8 : World.setCell (World.setCell W2 _ _) _ _ = W8 at r8 k8 ⊢
   have q0' : W8.cell? ⟨wz + 1, 0, none⟩ = some (.slice none 0 0) := by rw [cell_of_row _ _ _ _ _ _ r8]; rfl
   have q1' : W8.cell? ⟨wz + 1, 1, none⟩ = some (.int .i64 0) := by rw [cell_of_row _ _ _ _ _ _ r8]; rfl
   clear hW8 f1 f2 q0 q1
   exact bodyPost_ret (v := .tuple #[.agg #[.slice none 0 0, .int .i64 0], .bool false]) (by simp [results, Tryd.results80, go_sem, q0', q1']) rfl (NO.out (by omega) W8 (by rw [hwz]; exact k8))
  ·have i2 : decide (mn < ref) = false := decide_eq_false h2
   obtain ⟨rn, hrn⟩ : ∃ n : Nat, ref = (n : Int) := ⟨ref.toNat, by omega⟩
   subst hrn
   have hr1 : 1 ≤ rn := by omega
   have hrt : rn ≤ nt := by omega
   have hrw : rn ≤ wn := by omega
   go_quiet (fail)
   obtain ⟨m, hm⟩ : ∃ m, nt - rn = m := ⟨_, rfl⟩
   have hmT : m < T.length := by rw [HN.out.1]; omega
   obtain ⟨kk, hkk⟩ : ∃ k, m % 17 = k := ⟨_, rfl⟩
   have hk17 : kk < 17 := by omega
   obtain ⟨v, u, e1, e2, s, d, rfl, rfl, hsd, hst⟩ := HR.out.2.2.2.2 m hmT (by rw [HN.out.1]; omega)
   rw [hkk] at e1 e2
   have ET : Hid (tkOf T rn = T[m]) := Lib.hid (by
    unfold tkOf
    rw [HN.out.1, hm, List.getD_eq_getElem?_getD, List.getElem?_eq_getElem hmT]
    rfl)
   have HLm := HLS.out _ (List.getElem_mem hmT)
   obtain ⟨t, ht⟩ : ∃ t, T[m] = t := ⟨_, rfl⟩
   rw [ht] at e1 e2 ET hsd hst HLm
   obtain ⟨tl, tc⟩ := t
   dsimp only at e1 e2 hsd hst HLm
   obtain ⟨ln, hln⟩ : ∃ n, tl.length = n := ⟨_, rfl⟩
   rw [hln] at e1 hsd HLm
   have HST := Lib.hid (And.intro hst hln)
   have c1 : W1.cell? ⟨rb, o + kk * 2, none⟩ = some (.slice s ln d) := by rw [cell_of_row _ _ _ _ _ _ ((R12.out.2.2.block rb hlt).trans HR.out.1), Nat.mul_comm]; exact e1
   have c2 : W1.cell? ⟨rb, o + kk * 2 + 1, none⟩ = some (.int .i64 (tc : Int)) := by rw [cell_of_row _ _ _ _ _ _ ((R12.out.2.2.block rb hlt).trans HR.out.1), Nat.mul_comm]; exact e2
   have w1 : IntKind.i64.wrap ((nt : Int) - (rn : Int)) = (m : Int) := by rw [IntWalk.i64_in _ (by omega)]; omega
   have w2 : Int.tmod (m : Int) 17 = (kk : Int) := by rw [Int.tmod_eq_emod_of_nonneg (by omega)]; omega
   clear hst hln ht hm hmn
   have R3 : Hid (Below wz w (W1.drewN nq) ∧ (W1.drewN nq).heap[wz]? = some (.cells #[.int .i64 (wn : Int), .int .i64 (b.depth : Int), .int .i64 (b.p.itv : Int), .int .i64 (b.p.zet : Int), .int .i64 (b.cap : Int)] 70 (0, 0)) ∧ (W1.drewN nq).heap[wz + 1]? = some (.cells #[.slice none 0 0, .int .i64 0] 113 (0, 0))) := Lib.hid ⟨R12.out.2.2.trans ⟨rfl, rfl, rfl, Nat.le_refl _, fun _ _ => rfl⟩, R12.out.1, R12.out.2.1⟩
   have c0 : (W1.drewN nq).cell? ⟨rb, o + 34, none⟩ = some (.int .i64 (nt : Int)) := c0
   have c1 : (W1.drewN nq).cell? ⟨rb, o + kk * 2, none⟩ = some (.slice s ln d) := c1
   have c2 : (W1.drewN nq).cell? ⟨rb, o + kk * 2 + 1, none⟩ = some (.int .i64 (tc : Int)) := c2
   generalize W1.drewN nq = W2 at R3 c0 c1 c2 ⊢
   clear F1 R12 p0
   go_upto_region 3 with fail
   have c0 : W2.drew.cell? ⟨rb, o + 34, none⟩ = some (.int .i64 (nt : Int)) := c0
   have c1 : W2.drew.cell? ⟨rb, o + kk * 2, none⟩ = some (.slice s ln d) := c1
   have c2 : W2.drew.cell? ⟨rb, o + kk * 2 + 1, none⟩ = some (.int .i64 (tc : Int)) := c2
   have hkI : (kk : Int) < 17 := by omega
   have hk0 : (0 : Int) ≤ (kk : Int) := Int.natCast_nonneg _
   have KA : Below W2.heap.size W2 (W2.alloc (.cells #[.slice none 0 0, .int .i64 0] 113)) := (Below.refl _ _).alloc (Nat.le_refl _) _
   have d0 : (W2.alloc (.cells #[.slice none 0 0, .int .i64 0] 113)).drew.cell? ⟨rb, o + 34, none⟩ = some (.int .i64 (nt : Int)) := (KA.cell (World.block_lt_of_cell? _ _ c0)).trans c0
   have d1 : (W2.alloc (.cells #[.slice none 0 0, .int .i64 0] 113)).drew.cell? ⟨rb, o + kk * 2, none⟩ = some (.slice s ln d) := (KA.cell (World.block_lt_of_cell? _ _ c1)).trans c1
   have d2 : (W2.alloc (.cells #[.slice none 0 0, .int .i64 0] 113)).drew.cell? ⟨rb, o + kk * 2 + 1, none⟩ = some (.int .i64 (tc : Int)) := (KA.cell (World.block_lt_of_cell? _ _ c2)).trans c2
   have rz := heap_alloc_new W2 (.cells #[.slice none 0 0, .int .i64 0] 113)
   have g0 : (W2.alloc (.cells #[.slice none 0 0, .int .i64 0] 113)).drew.cell? ⟨W2.heap.size, 0, none⟩ = some (.slice none 0 0) := by
    show (W2.alloc (.cells #[.slice none 0 0, .int .i64 0] 113)).cell? _ = _
    rw [cell_of_row _ _ _ _ _ _ rz]; rfl
   have g1 : (W2.alloc (.cells #[.slice none 0 0, .int .i64 0] 113)).drew.cell? ⟨W2.heap.size, 1, none⟩ = some (.int .i64 0) := by
    show (W2.alloc (.cells #[.slice none 0 0, .int .i64 0] 113)).cell? _ = _
    rw [cell_of_row _ _ _ _ _ _ rz]; rfl
   have f0 : ∀ j, (W2.alloc (.cells #[.slice none 0 0, .int .i64 0] 113)).drew.frozen? ⟨W2.heap.size, j, none⟩ = false := fun j => frozen_of_row (W2.alloc (.cells #[.slice none 0 0, .int .i64 0] 113)) _ j _ _ rz
   have f00 := f0 0
   have f01 := f0 1
   go_region
   generalize hW3 : (W2.alloc (.cells #[.slice s ln d, .int .i64 (tc : Int)] 113)).drew = W3
   have R4 : Hid (Below wz w W3 ∧ W3.heap[wz]? = some (.cells #[.int .i64 (wn : Int), .int .i64 (b.depth : Int), .int .i64 (b.p.itv : Int), .int .i64 (b.p.zet : Int), .int .i64 (b.cap : Int)] 70 (0, 0)) ∧ W3.heap[wz + 1]? = some (.cells #[.slice none 0 0, .int .i64 0] 113 (0, 0)) ∧ W3.heap[W2.heap.size]? = some (.cells #[.slice s ln d, .int .i64 (tc : Int)] 113 (0, 0))) := Lib.hid (by
    subst hW3
    have ka : Below W2.heap.size W2 (W2.alloc (.cells #[.slice s ln d, .int .i64 (tc : Int)] 113)) := (Below.refl _ _).alloc (Nat.le_refl _) _
    obtain ⟨h1, h2, h3⟩ := R3.out
    exact ⟨Below.drew (h1.trans (ka.mono (by have := h1.size; omega))), (ka.block _ (lt_of_block h2)).trans h2, (ka.block _ (lt_of_block h3)).trans h3, heap_alloc_new W2 _⟩)
   have htb2 : wz + 1 < W2.heap.size := lt_of_block R3.out.2.2
   obtain ⟨tb, htb⟩ : ∃ z, W2.heap.size = z := ⟨_, rfl⟩
   rw [htb] at R4 htb2 ⊢
   obtain ⟨dp, hdp⟩ : ∃ z, b.depth = z := ⟨_, rfl⟩
   obtain ⟨cp, hcp⟩ : ∃ z, b.cap = z := ⟨_, rfl⟩
   have FIN : Hid (∀ bb W8, Below wz w W8 → (bb = true ↔ (0 < ln ∧ ln ≤ cp ∧ 0 < size ∧ size ≤ cp ∧ tc < dp)) → BackP b T (rn : Int) size ls w (.returned (.tuple #[.agg #[.slice s ln d, .int .i64 (tc : Int)], .bool bb])) W8) := Lib.hid (fun bb W8 k hb => by
    refine ⟨by rw [hwz]; exact k, _, _, bb, rfl, ⟨s, ln, d, tc, rfl, rfl⟩, ?_⟩
    rw [if_pos (Int.natCast_nonneg _), Int.toNat_natCast]
    unfold backB
    rw [ET.out]
    by_cases hm : tkMay b (tl, tc) size
    ·rw [if_pos ⟨⟨hr1, by rw [HN.out.1]; exact hrt, by rw [HN.out.2]; exact hrw⟩, hm⟩]
     have hm2 := hm
     unfold tkMay at hm2
     dsimp only at hm2
     rw [HST.out.2, hdp, hcp] at hm2
     exact ⟨hb.2 hm2, s, d, by rw [HST.out.2], rfl, by rw [HST.out.2]; exact hsd, HST.out.1⟩
    ·rw [if_neg (fun h => hm h.2)]
     unfold tkMay at hm
     dsimp only at hm
     rw [HST.out.2, hdp, hcp] at hm
     cases bb with
     | false => rfl
     | true => exact absurd (hb.1 rfl) hm)
   rw [hdp, hcp] at R4 ⊢
   clear hW3 htb hdp hcp R3 KA c0 c1 c2 d0 d1 d2 rz g0 g1 f0 f00 f01 w1 w2 e1 e2 hkI hk0 ET HST HR HN NO HLS h1 h2 i1 i2 hlt hk17 hkk hmT hr1 hrt hrw
   have c0 : W3.drew.cell? ⟨wz, 1, none⟩ = some (.int .i64 (dp : Int)) := by
    show W3.cell? _ = _
    rw [cell_of_row _ _ _ _ _ _ R4.out.2.1]; rfl
   have c1 : W3.drew.cell? ⟨wz, 4, none⟩ = some (.int .i64 (cp : Int)) := by
    show W3.cell? _ = _
    rw [cell_of_row _ _ _ _ _ _ R4.out.2.1]; rfl
   have c2 : W3.drew.cell? ⟨wz + 1, 0, none⟩ = some (.slice none 0 0) := by
    show W3.cell? _ = _
    rw [cell_of_row _ _ _ _ _ _ R4.out.2.2.1]; rfl
   have c3 : W3.drew.cell? ⟨wz + 1, 1, none⟩ = some (.int .i64 0) := by
    show W3.cell? _ = _
    rw [cell_of_row _ _ _ _ _ _ R4.out.2.2.1]; rfl
   have c4 : W3.drew.cell? ⟨tb, 0, none⟩ = some (.slice s ln d) := by
    show W3.cell? _ = _
    rw [cell_of_row _ _ _ _ _ _ R4.out.2.2.2]; rfl
   have c5 : W3.drew.cell? ⟨tb, 1, none⟩ = some (.int .i64 (tc : Int)) := by
    show W3.cell? _ = _
    rw [cell_of_row _ _ _ _ _ _ R4.out.2.2.2]; rfl
   have f0 : W3.drew.frozen? ⟨wz + 1, 0, none⟩ = false := frozen_of_row W3 _ 0 _ _ R4.out.2.2.1
   have f1 : W3.drew.frozen? ⟨wz + 1, 1, none⟩ = false := frozen_of_row W3 _ 1 _ _ R4.out.2.2.1
   have c2w : W3.cell? ⟨wz + 1, 0, none⟩ = some (.slice none 0 0) := c2
   have c3w : W3.cell? ⟨wz + 1, 1, none⟩ = some (.int .i64 0) := c3
   have f0w : W3.frozen? ⟨wz + 1, 0, none⟩ = false := f0
   have f1w : W3.frozen? ⟨wz + 1, 1, none⟩ = false := f1
   have WS : ∀ (g j : Nat) (v : Value), g ≠ wz + 1 → W3.cell? ⟨g, j, none⟩ = some v → (World.drew (World.setCell (World.setCell W3 ⟨wz + 1, 0, none⟩ (.slice s ln d)) ⟨wz + 1, 1, none⟩ (.int .i64 (tc : Int)))).cell? ⟨g, j, none⟩ = some v := fun g j v hg h => by
    refine (World.cell?_of_block (a := ⟨g, j, none⟩) ?_).trans h
    show (World.setCell (World.setCell W3 _ _) _ _).heap[g]? = _
    rw [Below.heap_setCell _ _ _ _ hg, Below.heap_setCell _ _ _ _ hg]
   have s0 := WS wz 1 _ (by omega) c0
   have s1 := WS wz 4 _ (by omega) c1
   have s4 := WS tb 0 _ (by omega) c4
   have s5 := WS tb 1 _ (by omega) c5
   clear WS
   have KD : Hid (Below wz w W3 ∧ W3.heap[wz + 1]? = some (.cells #[.slice none 0 0, .int .i64 0] 113 (0, 0))) := Lib.hid ⟨R4.out.1, R4.out.2.2.1⟩
   clear R4
   by_cases j0 : 0 < ln
   ·have i0 : decide ((0 : Int) < (ln : Int)) = true := decide_eq_true (by omega)
    have i0n : decide (0 < ln) = true := decide_eq_true j0
    by_cases j1 : ln ≤ cp
    ·have i1 : decide ((ln : Int) ≤ (cp : Int)) = true := decide_eq_true (by omega)
     have i1n : decide (ln ≤ cp) = true := decide_eq_true j1
     by_cases j2 : 0 < size
     ·have i2 : decide ((0 : Int) < (size : Int)) = true := decide_eq_true (by omega)
      have i2n : decide (0 < size) = true := decide_eq_true j2
      by_cases j3 : size ≤ cp
      ·have i3 : decide ((size : Int) ≤ (cp : Int)) = true := decide_eq_true (by omega)
       have i3n : decide (size ≤ cp) = true := decide_eq_true j3
       by_cases j4 : tc < dp
       ·have i4 : decide ((tc : Int) < (dp : Int)) = true := decide_eq_true (by omega)
        have i4n : decide (tc < dp) = true := decide_eq_true j4
        --M1
        go_upto_region 4 with fail
        go_big_region
        obtain ⟨r8, k8⟩ := set2 (.slice s ln d) (.int .i64 (tc : Int)) KD.out.2 (Nat.le_succ _) KD.out.1
        have k8 := Below.drew k8
        have r8 : (World.drew (World.setCell (World.setCell W3 ⟨wz + 1, 0, none⟩ (.slice s ln d)) ⟨wz + 1, 1, none⟩ (.int .i64 (tc : Int)))).heap[wz + 1]? = some (.cells #[.slice s ln d, .int .i64 (tc : Int)] 113 (0, 0)) := r8
        generalize hW8 : World.drew (World.setCell (World.setCell W3 _ _) _ _) = W8 at r8 k8 ⊢
        have q0' : W8.cell? ⟨wz + 1, 0, none⟩ = some (.slice s ln d) := by rw [cell_of_row _ _ _ _ _ _ r8]; rfl
        have q1' : W8.cell? ⟨wz + 1, 1, none⟩ = some (.int .i64 (tc : Int)) := by rw [cell_of_row _ _ _ _ _ _ r8]; rfl
        clear f0 f1 c0 c1 c2 c3 c4 c5 c2w c3w f0w f1w s0 s1 s4 s5 hW8
        go_wp2_with fail
        exact bodyPost_ret (v := .tuple #[.agg #[.slice s ln d, .int .i64 (tc : Int)], .bool true]) (by simp [results, Tryd.results80, go_sem, q0', q1']) rfl (FIN.out true W8 k8 ⟨fun _ => ⟨j0, j1, j2, j3, j4⟩, fun _ => rfl⟩)
       ·have i4 : decide ((tc : Int) < (dp : Int)) = false := decide_eq_false (by omega)
        have i4n : decide (tc < dp) = false := decide_eq_false j4
        --M2
        go_upto_region 4 with fail
        go_big_region
        obtain ⟨r8, k8⟩ := set2 (.slice s ln d) (.int .i64 (tc : Int)) KD.out.2 (Nat.le_succ _) KD.out.1
        have k8 := Below.drew k8
        have r8 : (World.drew (World.setCell (World.setCell W3 ⟨wz + 1, 0, none⟩ (.slice s ln d)) ⟨wz + 1, 1, none⟩ (.int .i64 (tc : Int)))).heap[wz + 1]? = some (.cells #[.slice s ln d, .int .i64 (tc : Int)] 113 (0, 0)) := r8
        generalize hW8 : World.drew (World.setCell (World.setCell W3 _ _) _ _) = W8 at r8 k8 ⊢
        have q0' : W8.cell? ⟨wz + 1, 0, none⟩ = some (.slice s ln d) := by rw [cell_of_row _ _ _ _ _ _ r8]; rfl
        have q1' : W8.cell? ⟨wz + 1, 1, none⟩ = some (.int .i64 (tc : Int)) := by rw [cell_of_row _ _ _ _ _ _ r8]; rfl
        clear f0 f1 c0 c1 c2 c3 c4 c5 c2w c3w f0w f1w s0 s1 s4 s5 hW8
        go_wp2_with fail
        exact bodyPost_ret (v := .tuple #[.agg #[.slice s ln d, .int .i64 (tc : Int)], .bool false]) (by simp [results, Tryd.results80, go_sem, q0', q1']) rfl (FIN.out false W8 k8 ⟨fun h => (by cases h), fun h => absurd h.2.2.2.2 j4⟩)
      ·have i3 : decide ((size : Int) ≤ (cp : Int)) = false := decide_eq_false (by omega)
       have i3n : decide (size ≤ cp) = false := decide_eq_false j3
       --M3
       go_upto_region 4 with fail
       go_big_region
       obtain ⟨r8, k8⟩ := set2 (.slice s ln d) (.int .i64 (tc : Int)) KD.out.2 (Nat.le_succ _) KD.out.1
       have k8 := Below.drew k8
       have r8 : (World.drew (World.setCell (World.setCell W3 ⟨wz + 1, 0, none⟩ (.slice s ln d)) ⟨wz + 1, 1, none⟩ (.int .i64 (tc : Int)))).heap[wz + 1]? = some (.cells #[.slice s ln d, .int .i64 (tc : Int)] 113 (0, 0)) := r8
       generalize hW8 : World.drew (World.setCell (World.setCell W3 _ _) _ _) = W8 at r8 k8 ⊢
       have q0' : W8.cell? ⟨wz + 1, 0, none⟩ = some (.slice s ln d) := by rw [cell_of_row _ _ _ _ _ _ r8]; rfl
       have q1' : W8.cell? ⟨wz + 1, 1, none⟩ = some (.int .i64 (tc : Int)) := by rw [cell_of_row _ _ _ _ _ _ r8]; rfl
       clear f0 f1 c0 c1 c2 c3 c4 c5 c2w c3w f0w f1w s0 s1 s4 s5 hW8
       go_wp2_with fail
       exact bodyPost_ret (v := .tuple #[.agg #[.slice s ln d, .int .i64 (tc : Int)], .bool false]) (by simp [results, Tryd.results80, go_sem, q0', q1']) rfl (FIN.out false W8 k8 ⟨fun h => (by cases h), fun h => absurd h.2.2.2.1 j3⟩)
     ·have i2 : decide ((0 : Int) < (size : Int)) = false := decide_eq_false (by omega)
      have i2n : decide (0 < size) = false := decide_eq_false j2
      --M4
      go_upto_region 4 with fail
      go_big_region
      obtain ⟨r8, k8⟩ := set2 (.slice s ln d) (.int .i64 (tc : Int)) KD.out.2 (Nat.le_succ _) KD.out.1
      have k8 := Below.drew k8
      have r8 : (World.drew (World.setCell (World.setCell W3 ⟨wz + 1, 0, none⟩ (.slice s ln d)) ⟨wz + 1, 1, none⟩ (.int .i64 (tc : Int)))).heap[wz + 1]? = some (.cells #[.slice s ln d, .int .i64 (tc : Int)] 113 (0, 0)) := r8
      generalize hW8 : World.drew (World.setCell (World.setCell W3 _ _) _ _) = W8 at r8 k8 ⊢
      have q0' : W8.cell? ⟨wz + 1, 0, none⟩ = some (.slice s ln d) := by rw [cell_of_row _ _ _ _ _ _ r8]; rfl
      have q1' : W8.cell? ⟨wz + 1, 1, none⟩ = some (.int .i64 (tc : Int)) := by rw [cell_of_row _ _ _ _ _ _ r8]; rfl
      clear f0 f1 c0 c1 c2 c3 c4 c5 c2w c3w f0w f1w s0 s1 s4 s5 hW8
      go_wp2_with fail
      exact bodyPost_ret (v := .tuple #[.agg #[.slice s ln d, .int .i64 (tc : Int)], .bool false]) (by simp [results, Tryd.results80, go_sem, q0', q1']) rfl (FIN.out false W8 k8 ⟨fun h => (by cases h), fun h => absurd h.2.2.1 j2⟩)
    ·have i1 : decide ((ln : Int) ≤ (cp : Int)) = false := decide_eq_false (by omega)
     have i1n : decide (ln ≤ cp) = false := decide_eq_false j1
     --M5
     go_upto_region 4 with fail
     go_big_region
     obtain ⟨r8, k8⟩ := set2 (.slice s ln d) (.int .i64 (tc : Int)) KD.out.2 (Nat.le_succ _) KD.out.1
     have k8 := Below.drew k8
     have r8 : (World.drew (World.setCell (World.setCell W3 ⟨wz + 1, 0, none⟩ (.slice s ln d)) ⟨wz + 1, 1, none⟩ (.int .i64 (tc : Int)))).heap[wz + 1]? = some (.cells #[.slice s ln d, .int .i64 (tc : Int)] 113 (0, 0)) := r8
     generalize hW8 : World.drew (World.setCell (World.setCell W3 _ _) _ _) = W8 at r8 k8 ⊢
     have q0' : W8.cell? ⟨wz + 1, 0, none⟩ = some (.slice s ln d) := by rw [cell_of_row _ _ _ _ _ _ r8]; rfl
     have q1' : W8.cell? ⟨wz + 1, 1, none⟩ = some (.int .i64 (tc : Int)) := by rw [cell_of_row _ _ _ _ _ _ r8]; rfl
     clear f0 f1 c0 c1 c2 c3 c4 c5 c2w c3w f0w f1w s0 s1 s4 s5 hW8
     go_wp2_with fail
     exact bodyPost_ret (v := .tuple #[.agg #[.slice s ln d, .int .i64 (tc : Int)], .bool false]) (by simp [results, Tryd.results80, go_sem, q0', q1']) rfl (FIN.out false W8 k8 ⟨fun h => (by cases h), fun h => absurd h.2.1 j1⟩)
   ·have i0 : decide ((0 : Int) < (ln : Int)) = false := decide_eq_false (by omega)
    have i0n : decide (0 < ln) = false := decide_eq_false j0
    --M6
    go_upto_region 4 with fail
    go_big_region
    obtain ⟨r8, k8⟩ := set2 (.slice s ln d) (.int .i64 (tc : Int)) KD.out.2 (Nat.le_succ _) KD.out.1
    have k8 := Below.drew k8
    have r8 : (World.drew (World.setCell (World.setCell W3 ⟨wz + 1, 0, none⟩ (.slice s ln d)) ⟨wz + 1, 1, none⟩ (.int .i64 (tc : Int)))).heap[wz + 1]? = some (.cells #[.slice s ln d, .int .i64 (tc : Int)] 113 (0, 0)) := r8
    generalize hW8 : World.drew (World.setCell (World.setCell W3 _ _) _ _) = W8 at r8 k8 ⊢
    have q0' : W8.cell? ⟨wz + 1, 0, none⟩ = some (.slice s ln d) := by rw [cell_of_row _ _ _ _ _ _ r8]; rfl
    have q1' : W8.cell? ⟨wz + 1, 1, none⟩ = some (.int .i64 (tc : Int)) := by rw [cell_of_row _ _ _ _ _ _ r8]; rfl
    clear f0 f1 c0 c1 c2 c3 c4 c5 c2w c3w f0w f1w s0 s1 s4 s5 hW8
    go_wp2_with fail
    exact bodyPost_ret (v := .tuple #[.agg #[.slice s ln d, .int .i64 (tc : Int)], .bool false]) (by simp [results, Tryd.results80, go_sem, q0', q1']) rfl (FIN.out false W8 k8 ⟨fun h => (by cases h), fun h => absurd h.1 j0⟩)
end Go.Proofs.YtflnpcgnenhogaaDoor.ls
namespace Go.Proofs.YtflnpcgnenhogaaDoor.ls
open Go.RowKit Go.Proofs.YtflnpcgnenhogaaDoor.own Go.Proofs.YtflnpcgnenhogaaDoor.bit

/-- the row behind a put -/
def putRow (row : Array Value) (o n : Nat) (v : Value) (c : Int) : Array Value := ((row.setIfInBounds (o + n % 17 * 2) v).setIfInBounds (o + n % 17 * 2 + 1) (.int .i64 c)).setIfInBounds (o + 34) (.int .i64 ((n + 1 : Nat) : Int))
theorem putRow_get {row : Array Value} {o n : Nat} {v : Value} {c : Int} (j : Nat) (h : j < row.size) : (putRow row o n v c)[j]? = if j = o + 34 then some (.int .i64 ((n + 1 : Nat) : Int)) else if j = o + n % 17 * 2 + 1 then some (.int .i64 c) else if j = o + n % 17 * 2 then some v else row[j]? := by
 unfold putRow
 rw [Array.getElem?_setIfInBounds, Array.getElem?_setIfInBounds, Array.getElem?_setIfInBounds]
 simp only [Array.size_setIfInBounds]
 by_cases h1 : o + 34 = j
 ·subst h1; rw [if_pos rfl, if_pos h, if_pos rfl]
 ·rw [if_neg h1, if_neg (show ¬ j = o + 34 from fun e => h1 e.symm)]
  by_cases h2 : o + n % 17 * 2 + 1 = j
  ·subst h2; rw [if_pos rfl, if_pos h, if_pos rfl]
  ·rw [if_neg h2, if_neg (show ¬ j = o + n % 17 * 2 + 1 from fun e => h2 e.symm)]
   by_cases h3 : o + n % 17 * 2 = j
   ·subst h3; rw [if_pos rfl, if_pos h, if_pos rfl]
   ·rw [if_neg h3, if_neg (show ¬ j = o + n % 17 * 2 from fun e => h3 e.symm)]
theorem putRow_size {row : Array Value} {o n : Nat} {v : Value} {c : Int} : (putRow row o n v c).size = row.size := by unfold putRow; simp
theorem Ring.put {T : List Tk} {row : Array Value} {o : Nat} {ls : List (Nat × Obj)} (h : Ring T row o ls) (t : Tk) (s : Option Addr) (d : Nat) (hd : t.1.length ≤ d) (hst : Stands ls s t.1) : Ring (T ++ [t]) (putRow row o T.length (.slice s t.1.length d) (t.2 : Int)) o ls := by
 obtain ⟨h1, h2, h3, h4⟩ := h
 refine ⟨by rw [putRow_size]; exact h1, by rw [putRow_get _ (by omega), if_pos rfl, List.length_append, List.length_singleton], fun k hk => ?_, fun j hj hl => ?_⟩
 ·rw [putRow_get _ (by omega), putRow_get _ (by omega)]
  by_cases hkk : k = T.length % 17
  ·refine ⟨s, _, d, (t.2 : Int), by rw [if_neg (by omega), if_neg (by omega), if_pos (by omega)], by rw [if_neg (by omega), if_pos (by omega)]⟩
  ·obtain ⟨s', n', d', c', e1, e2⟩ := h3 k hk
   refine ⟨s', n', d', c', by rw [if_neg (by omega), if_neg (by omega), if_neg (by omega)]; exact e1, by rw [if_neg (by omega), if_neg (by omega), if_neg (by omega)]; exact e2⟩
 ·rw [List.length_append, List.length_singleton] at hj hl
  by_cases hjT : j = T.length
  ·subst hjT
   refine ⟨_, _, by rw [putRow_get _ (by omega), if_neg (by omega), if_neg (by omega), if_pos (by omega)], by rw [putRow_get _ (by omega), if_neg (by omega), if_pos (by omega)], s, d, ?_, ?_, ?_, ?_⟩
   all_goals rw [List.getElem_append_right (Nat.le_refl _)]
   ·simp
   ·simp
   ·simpa using hd
   ·simpa using hst
  ·obtain ⟨v, u, e1, e2, e3⟩ := h4 j (by omega) (by omega)
   have hm : j % 17 ≠ T.length % 17 := by omega
   refine ⟨v, u, by rw [putRow_get _ (by omega), if_neg (by omega), if_neg (by omega), if_neg (by omega)]; exact e1, by rw [putRow_get _ (by omega), if_neg (by omega), if_neg (by omega), if_neg (by omega)]; exact e2, ?_⟩
   rw [List.getElem_append_left (by omega)]
   exact e3
set_option maxRecDepth 100000 in
set_option maxHeartbeats 3200000 in
theorem rput_any (w : World) (rb o : Nat) (row : Array Value) (U : TypeId) (hrow : w.heap[rb]? = some (.cells row U (0, 0))) (T : List Tk) (ls : List (Nat × Obj)) (hR : Ring T row o ls) (hT : T.length ≤ 65536) (s : Option Addr) (n d : Nat) (c : Int) :
  Calls Tryd.prog 81 #[.pointer (some ⟨rb, o, none⟩), .slice s n d, .int .i64 c] w fun e w' => e = .returned (.tuple #[]) ∧ Keeps w w' (fun b => b = rb) ∧ w'.heap.size = w.heap.size ∧ w'.heap[rb]? = some (.cells (putRow row o T.length (.slice s n d) c) U (0, 0)) := by
 have c0 : w.cell? ⟨rb, o + 34, none⟩ = some (.int .i64 (T.length : Int)) := by rw [cell_of_row _ _ _ _ _ _ hrow]; exact hR.2.1
 obtain ⟨s0, n0, d0, z0, e1, e2⟩ := hR.2.2.1 (T.length % 17) (Nat.mod_lt _ (by decide))
 have HRW := Lib.hid hrow
 obtain ⟨nt, hnt⟩ : ∃ n, T.length = n := ⟨_, rfl⟩
 rw [hnt] at c0 e1 e2 hT ⊢
 obtain ⟨kk, hkk⟩ : ∃ k, nt % 17 = k := ⟨_, rfl⟩
 have hk17 : kk < 17 := by omega
 rw [hkk] at e1 e2
 have c1 : w.drew.cell? ⟨rb, o + kk * 2, none⟩ = some (.slice s0 n0 d0) := by show w.cell? _ = _; rw [cell_of_row _ _ _ _ _ _ hrow, Nat.mul_comm]; exact e1
 have c2 : w.drew.cell? ⟨rb, o + kk * 2 + 1, none⟩ = some (.int .i64 z0) := by show w.cell? _ = _; rw [cell_of_row _ _ _ _ _ _ hrow, Nat.mul_comm]; exact e2
 have c0 : w.drew.cell? ⟨rb, o + 34, none⟩ = some (.int .i64 (nt : Int)) := c0
 have f0 : ∀ j, w.drew.frozen? ⟨rb, j, none⟩ = false := fun j => frozen_of_row w _ j _ _ hrow
 have f1 := f0 (o + kk * 2)
 have f2 := f0 (o + kk * 2 + 1)
 have c1w : w.cell? ⟨rb, o + kk * 2, none⟩ = some (.slice s0 n0 d0) := c1
 have c2w : w.cell? ⟨rb, o + kk * 2 + 1, none⟩ = some (.int .i64 z0) := c2
 have f1w : w.frozen? ⟨rb, o + kk * 2, none⟩ = false := f1
 have f2w : w.frozen? ⟨rb, o + kk * 2 + 1, none⟩ = false := f2
 have w2 : Int.tmod (nt : Int) 17 = (kk : Int) := by rw [Int.tmod_eq_emod_of_nonneg (by omega)]; omega
 have hkI : (kk : Int) < 17 := by omega
 have hk0 : (0 : Int) ≤ (kk : Int) := Int.natCast_nonneg _
 clear hrow hR e1 e2 hnt
 go_enter Tryd.func81, Tryd.ntmps81
 go_upto_region 0 with fail
 go_big_region
 have r1 := heap_setCell_same w rb (o + kk * 2) _ _ (.slice s n d) HRW.out
 have r2 := heap_setCell_same _ rb (o + kk * 2 + 1) _ _ (.int .i64 c) r1
 have KP : Hid (Keeps w (World.drew (World.setCell (World.setCell w ⟨rb, o + kk * 2, none⟩ (.slice s n d)) ⟨rb, o + kk * 2 + 1, none⟩ (.int .i64 c))) (fun b => b = rb) ∧ (World.drew (World.setCell (World.setCell w ⟨rb, o + kk * 2, none⟩ (.slice s n d)) ⟨rb, o + kk * 2 + 1, none⟩ (.int .i64 c))).heap.size = w.heap.size ∧ (World.drew (World.setCell (World.setCell w ⟨rb, o + kk * 2, none⟩ (.slice s n d)) ⟨rb, o + kk * 2 + 1, none⟩ (.int .i64 c))).heap[rb]? = some (.cells ((row.setIfInBounds (o + kk * 2) (.slice s n d)).setIfInBounds (o + kk * 2 + 1) (.int .i64 c)) U (0, 0))) :=
  Lib.hid ⟨(((Keeps.refl w (fun b => b = rb)).setCell (p := ⟨rb, o + kk * 2, none⟩) (.inl rfl) _).setCell (p := ⟨rb, o + kk * 2 + 1, none⟩) (.inl rfl) _).drew, by show (World.setCell (World.setCell w _ _) _ _).heap.size = _; simp [World.setCell], r2⟩
 generalize hW4 : World.drew (World.setCell (World.setCell w _ _) _ _) = W4 at KP ⊢
 have c5 : W4.cell? ⟨rb, o + 34, none⟩ = some (.int .i64 (nt : Int)) := by
  rw [cell_of_row _ _ _ _ _ _ KP.out.2.2, Array.getElem?_setIfInBounds_ne (by omega), Array.getElem?_setIfInBounds_ne (by omega)]
  have h : w.cell? ⟨rb, o + 34, none⟩ = some (.int .i64 (nt : Int)) := c0
  rw [cell_of_row _ _ _ _ _ _ HRW.out] at h
  exact h
 have f5 : W4.frozen? ⟨rb, o + 34, none⟩ = false := frozen_of_row W4 _ _ _ _ KP.out.2.2
 clear hW4 r1 r2 c0 c1 c2 c1w c2w f0 f1 f2 f1w f2w w2
 go_wp2_with fail
 go_end0
 refine ⟨rfl, KP.out.1.setCell (.inl rfl) _, by simp [World.setCell]; exact KP.out.2.1, ?_⟩
 have r6 := heap_setCell_same W4 rb (o + 34) _ _ (.int .i64 ((nt : Int) + 1)) KP.out.2.2
 unfold putRow
 rw [hkk]
 exact r6
end Go.Proofs.YtflnpcgnenhogaaDoor.ls
namespace Go.Proofs.YtflnpcgnenhogaaDoor.ls
open Go.RowKit Go.Proofs.YtflnpcgnenhogaaDoor.own Go.Proofs.YtflnpcgnenhogaaDoor.bit

theorem own_same2 {W W' : World} {base : Nat} {T : TypeId} {sz : Nat} {v : Value} {n : Nat} {xs : List Value} (h : W.ownsRow base T sz v n xs) (hs : ∀ g, v.ownBlock = some g → W'.heap[g]? = W.heap[g]?) : W'.ownsRow base T sz v n xs := by
 refine ⟨h.1, ?_⟩
 rcases h.2 with h2 | ⟨g, cap, cur, hv, hb, hg, r⟩
 ·exact .inl h2
 ·exact .inr ⟨g, cap, cur, hv, hb, (hs g (by rw [hv]; rfl)).trans hg, r⟩
theorem own_block2 {W : World} {base : Nat} {T : TypeId} {sz : Nat} {v : Value} {n : Nat} {xs : List Value} (h : W.ownsRow base T sz v n xs) {g : Nat} (hv : v.ownBlock = some g) : ∃ o, W.heap[g]? = some o := by
 rcases h.2 with ⟨rfl, _⟩ | ⟨g', cap, cur, rfl, _, hg, _⟩
 ·cases hv
 ·cases hv
  exact ⟨_, hg⟩
section
variable {w W : World} {wr : Option (Nat × Bits)} {rd : Option (Nat × ByteArray × Nat)} {ks : List (Nat × Obj)} {vm ve : Value} {M : List One} {E : List Nat}
theorem own_new {v v' : Value} {n : Nat} (hw : v'.ownBlock = v.ownBlock ∨ v'.ownBlock = some n) {b : Nat} (hb : b < n) (hne : some b ≠ v.ownBlock) : some b ≠ v'.ownBlock := fun e => by
 rcases hw with h | h
 ·exact hne (e.trans h)
 ·rw [h] at e
  injection e with e
  omega
theorem own_ks {W2 : World} {T : TypeId} {sz n : Nat} {v' : Value} {xs : List Value} (own : W2.ownsRow 0 T sz v' n xs) : ∃ ks2 : List (Nat × Obj), (∀ g, v'.ownBlock = some g → ∃ o, (g, o) ∈ ks2) ∧ (∀ p ∈ ks2, some p.1 = v'.ownBlock) ∧ ∀ p ∈ ks2, W2.heap[p.1]? = some p.2 := by
 rcases hv : v'.ownBlock with _ | g
 ·exact ⟨[], fun _ hg => (by cases hg), fun _ hp => (by cases hp), fun _ hp => (by cases hp)⟩
 ·obtain ⟨o, ho⟩ := own_block2 own hv
  refine ⟨[(g, o)], fun g' hg' => ⟨o, by cases hg'; exact List.mem_cons_self ..⟩, fun p hp => ?_, fun p hp => ?_⟩
  ·rw [List.mem_singleton.1 hp]
  ·rw [List.mem_singleton.1 hp]; exact ho
end
theorem one_one (o : One) : ∀ u ∈ o.cells, u.oneCell' = true := by
 intro u hu
 unfold One.cells at hu
 simp only [List.mem_cons, List.not_mem_nil, or_false] at hu
 rcases hu with rfl | rfl | rfl | rfl | rfl | rfl | rfl <;> rfl
end Go.Proofs.YtflnpcgnenhogaaDoor.ls
namespace Go.Proofs.YtflnpcgnenhogaaDoor.ls
open Go.RowKit Go.Proofs.YtflnpcgnenhogaaDoor.own Go.Proofs.YtflnpcgnenhogaaDoor.bit

section
variable {w W W' : World} {wr : Option (Nat × Bits)} {rd : Option (Nat × ByteArray × Nat)} {K : List (Nat × Obj)}
/-- one of the blocks beside is turned -/
theorem FS.turn {b : Nat} {o o' : Obj} (h : FS w wr rd ((b, o) :: K) W) (k : Keeps W W' (fun x => x = b)) (hb : W'.heap[b]? = some o') (hne : ∀ p ∈ K, p.1 ≠ b) : FS w wr rd ((b, o') :: K) W' := by
 obtain ⟨x, hf, hw, hr, hk⟩ := h
 obtain ⟨hx, hlt⟩ := hk (b, o) (List.mem_cons_self ..)
 have hlt := lt_of_block hlt
 have f2 : Fr x (paint x W.heap.size 4) (fun e => e = 4) W W' := k.fr rfl (fun c _ hc => by subst hc; exact hx)
 refine ⟨_, hf.trans (f2.mono (fun c hc => by show c < 50; omega)), fun q e => (hw q e).frame f2 (by decide), fun q e => rdc_frame (hr q e) f2 (by decide), fun p hp => ?_⟩
 rcases List.mem_cons.1 hp with rfl | hp
 ·exact ⟨(paint_old hlt).trans hx, hb⟩
 ·obtain ⟨h1, h2⟩ := hk p (List.mem_cons_of_mem _ hp)
  exact ⟨(paint_old (lt_of_block h2)).trans h1, (k.block _ (lt_of_block h2) (hne p hp)).trans h2⟩
theorem FS.store {b j : Nat} {row : Array Value} {T : TypeId} (v : Value) (h : FS w wr rd ((b, .cells row T (0, 0)) :: K) W) (hne : ∀ p ∈ K, p.1 ≠ b) : FS w wr rd ((b, .cells (row.setIfInBounds j v) T (0, 0)) :: K) (W.setCell ⟨b, j, none⟩ v) :=
 h.turn ((Keeps.refl W (fun x => x = b)).setCell (p := ⟨b, j, none⟩) (.inl rfl) v) (heap_setCell_same W b j _ _ v (h.row (List.mem_cons_self ..))) hne
theorem FS.more {js : List (Nat × Obj)} (h : FS w wr rd K W) (k : Below W.heap.size W W') (hj : ∀ p ∈ js, W.heap.size ≤ p.1 ∧ W'.heap[p.1]? = some p.2) : FS w wr rd (js ++ K) W' := by
 obtain ⟨x, hf, hw, hr, hk⟩ := h
 have f2 : Fr x (paint x W.heap.size 4) (fun e => e = 4) W W' := Fr.of_below k rfl
 refine ⟨_, hf.trans (f2.mono (fun c hc => by show c < 50; omega)), fun q e => (hw q e).frame f2 (by decide), fun q e => rdc_frame (hr q e) f2 (by decide), fun p hp => ?_⟩
 rcases List.mem_append.1 hp with hp | hp
 ·exact ⟨paint_new (hj p hp).1, (hj p hp).2⟩
 ·obtain ⟨h1, h2⟩ := hk p hp
  exact ⟨(paint_old (lt_of_block h2)).trans h1, (k.block _ (lt_of_block h2)).trans h2⟩
theorem FS.drewN (h : FS w wr rd K W) (q : Nat) : FS w wr rd K (W.drewN q) := h.next ⟨rfl, rfl, rfl, Nat.le_refl _, fun _ _ => rfl⟩
theorem FS.drew (h : FS w wr rd K W) : FS w wr rd K W.drew := h.drewN 1
end
/-- a list that a call reads: it stood there from the first, or stands in blocks of these -/
def Seen (w : World) (ks : List (Nat × Obj)) (a : Option Addr) (l : List Nat) : Prop := ∀ W : World, Below w.heap.size w W → (∀ p ∈ ks, W.heap[p.1]? = some p.2) → LV W a l
theorem Seen.of (w : World) (ks : List (Nat × Obj)) {a : Option Addr} {l : List Nat} (h : LV w a l) : Seen w ks a l := fun _ k _ => h.below k
theorem Seen.more {w : World} {ks ks' : List (Nat × Obj)} {a : Option Addr} {l : List Nat} (h : Seen w ks a l) (hs : ∀ p ∈ ks, p ∈ ks') : Seen w ks' a l := fun W k hk => h W k (fun p hp => hk p (hs p hp))
/-- a packer's row -/
structure PackRow (b : Bp) (T : List Tk) (wb E D : Nat) (row : Array Value) (ls : List (Nat × Obj)) : Prop where
 size : row.size = 43
 p0 : row[0]? = some (.int .i64 (b.p.win : Int))
 p1 : row[1]? = some (.int .i64 (b.depth : Int))
 p2 : row[2]? = some (.int .i64 (b.p.itv : Int))
 p3 : row[3]? = some (.int .i64 (b.p.zet : Int))
 p4 : row[4]? = some (.int .i64 (b.cap : Int))
 ring : Ring T row 5 ls
 w : row[40]? = some (.pointer (some ⟨wb, 0, none⟩))
 e : row[41]? = some (.int .i64 (E : Int))
 d : row[42]? = some (.int .i64 (D : Int))
/-- what a try stands on: three variables that turn, the rest still -/
structure TryS (w : World) (b : Bp) (T : List Tk) (wb E D : Nat) (l : Bits) (rd : Option (Nat × ByteArray × Nat)) (kb : Nat) (row : Array Value) (ls : List (Nat × Obj)) (bk bs bx bl br bb : Nat) (sv : Value) (lv rv v u : Value) (K : List (Nat × Obj)) (W : World) : Prop where
 fs : FS w (some (wb, l)) rd ((bl, .cells #[lv] 3 (0, 0)) :: (br, .cells #[rv] 3 (0, 0)) :: (bb, .cells #[v, u] 113 (0, 0)) :: K) W
 k : (kb, .cells row 156 (0, 0)) ∈ K
 kk : (bk, .cells #[.pointer (some ⟨kb, 0, none⟩)] 105 (0, 0)) ∈ K
 ks : (bs, .cells #[sv] 29 (0, 0)) ∈ K
 kx : (bx, .cells #[.int .i64 (T.length : Int)] 3 (0, 0)) ∈ K
 kl : ∀ p ∈ ls, p ∈ K
 ne : bl ≠ br ∧ bl ≠ bb ∧ br ≠ bb ∧ ∀ p ∈ K, p.1 ≠ bl ∧ p.1 ≠ br ∧ p.1 ≠ bb
 row : PackRow b T wb E D row ls
section
variable {w W W' : World} {b : Bp} {T : List Tk} {wb E D : Nat} {l : Bits} {rd : Option (Nat × ByteArray × Nat)} {kb : Nat} {row : Array Value} {ls : List (Nat × Obj)} {bk bs bx bl br bb : Nat} {sv lv rv v u : Value} {K : List (Nat × Obj)}
theorem TryS.next (h : TryS w b T wb E D l rd kb row ls bk bs bx bl br bb sv lv rv v u K W) (k : Below W.heap.size W W') : TryS w b T wb E D l rd kb row ls bk bs bx bl br bb sv lv rv v u K W' := ⟨h.fs.next k, h.k, h.kk, h.ks, h.kx, h.kl, h.ne, h.row⟩
theorem TryS.drew (h : TryS w b T wb E D l rd kb row ls bk bs bx bl br bb sv lv rv v u K W) : TryS w b T wb E D l rd kb row ls bk bs bx bl br bb sv lv rv v u K W.drew := h.next (Below.drew (Below.refl _ _))
theorem TryS.has (h : TryS w b T wb E D l rd kb row ls bk bs bx bl br bb sv lv rv v u K W) {p : Nat × Obj} (hp : p ∈ K) : W.heap[p.1]? = some p.2 := h.fs.row (b := p.1) (o := p.2) (List.mem_cons_of_mem _ (List.mem_cons_of_mem _ (List.mem_cons_of_mem _ hp)))
theorem TryS.add (h : TryS w b T wb E D l rd kb row ls bk bs bx bl br bb sv lv rv v u K W) (k : Below W.heap.size W W') {tb : Nat} {o : Obj} (htb : W.heap.size ≤ tb) (ho : W'.heap[tb]? = some o) : TryS w b T wb E D l rd kb row ls bk bs bx bl br bb sv lv rv v u ((tb, o) :: K) W' := by
 have l1 := lt_of_block (h.fs.row (List.mem_cons_self ..))
 have l2 := lt_of_block (h.fs.row (List.mem_cons_of_mem _ (List.mem_cons_self ..)))
 have l3 := lt_of_block (h.fs.row (List.mem_cons_of_mem _ (List.mem_cons_of_mem _ (List.mem_cons_self ..))))
 obtain ⟨n1, n2, n3, n4⟩ := h.ne
 refine ⟨(h.fs.more (js := [(tb, o)]) k (fun p hp => by rw [List.mem_singleton.1 hp]; exact ⟨htb, ho⟩)).sub (fun p hp => ?_), List.mem_cons_of_mem _ h.k, List.mem_cons_of_mem _ h.kk, List.mem_cons_of_mem _ h.ks, List.mem_cons_of_mem _ h.kx, fun p hp => List.mem_cons_of_mem _ (h.kl p hp), ⟨n1, n2, n3, fun p hp => ?_⟩, h.row⟩
 ·simp only [List.mem_cons, List.mem_append, List.not_mem_nil, or_false] at hp ⊢
  rcases hp with h | h | h | h | h
  ·exact .inr (.inl h)
  ·exact .inr (.inr (.inl h))
  ·exact .inr (.inr (.inr (.inl h)))
  ·exact .inl h
  ·exact .inr (.inr (.inr (.inr h)))
 ·rcases List.mem_cons.1 hp with rfl | hp
  ·exact ⟨by show tb ≠ bl; omega, by show tb ≠ br; omega, by show tb ≠ bb; omega⟩
  ·exact n4 p hp
/-- the cells that a try reads -/
theorem TryS.cells (h : TryS w b T wb E D l rd kb row ls bk bs bx bl br bb sv lv rv v u K W) :
  W.cell? ⟨bk, 0, none⟩ = some (.pointer (some ⟨kb, 0, none⟩)) ∧ W.cell? ⟨bs, 0, none⟩ = some sv ∧ W.cell? ⟨bx, 0, none⟩ = some (.int .i64 (T.length : Int)) ∧ W.cell? ⟨bl, 0, none⟩ = some lv ∧ W.cell? ⟨br, 0, none⟩ = some rv ∧
  W.cell? ⟨kb, 0, none⟩ = some (.int .i64 (b.p.win : Int)) ∧ W.cell? ⟨kb, 1, none⟩ = some (.int .i64 (b.depth : Int)) ∧ W.cell? ⟨kb, 2, none⟩ = some (.int .i64 (b.p.itv : Int)) ∧ W.cell? ⟨kb, 3, none⟩ = some (.int .i64 (b.p.zet : Int)) ∧ W.cell? ⟨kb, 4, none⟩ = some (.int .i64 (b.cap : Int)) := by
 have hk := h.has h.k
 refine ⟨by rw [cell_of_row _ _ _ _ _ _ (h.has h.kk)]; rfl, by rw [cell_of_row _ _ _ _ _ _ (h.has h.ks)]; rfl, by rw [cell_of_row _ _ _ _ _ _ (h.has h.kx)]; rfl, by rw [cell_of_row _ _ _ _ _ _ (h.fs.row (List.mem_cons_self ..))]; rfl, by rw [cell_of_row _ _ _ _ _ _ (h.fs.row (List.mem_cons_of_mem _ (List.mem_cons_self ..)))]; rfl, ?_, ?_, ?_, ?_, ?_⟩
 ·rw [cell_of_row _ _ _ _ _ _ hk]; exact h.row.p0
 ·rw [cell_of_row _ _ _ _ _ _ hk]; exact h.row.p1
 ·rw [cell_of_row _ _ _ _ _ _ hk]; exact h.row.p2
 ·rw [cell_of_row _ _ _ _ _ _ hk]; exact h.row.p3
 ·rw [cell_of_row _ _ _ _ _ _ hk]; exact h.row.p4
/-- the three variables are written over -/
theorem TryS.set (h : TryS w b T wb E D l rd kb row ls bk bs bx bl br bb sv lv rv v u K W) (lv' rv' v' u' : Value) :
  TryS w b T wb E D l rd kb row ls bk bs bx bl br bb sv lv' rv' v' u' K ((((W.setCell ⟨bl, 0, none⟩ lv').setCell ⟨br, 0, none⟩ rv').setCell ⟨bb, 0, none⟩ v').setCell ⟨bb, 1, none⟩ u') := by
 obtain ⟨n1, n2, n3, n4⟩ := h.ne
 have e1 := h.fs.store (j := 0) lv' (fun p hp => by
  simp only [List.mem_cons] at hp
  rcases hp with rfl | rfl | hp
  ·exact fun e => n1 e.symm
  ·exact fun e => n2 e.symm
  ·exact (n4 p hp).1)
 have e2 := (e1.sub (ks' := (br, .cells #[rv] 3 (0, 0)) :: (bl, .cells #[lv'] 3 (0, 0)) :: (bb, .cells #[v, u] 113 (0, 0)) :: K) (fun p hp => by
  simp only [List.mem_cons] at hp ⊢
  rcases hp with h | h | h | h
  ·exact .inr (.inl h)
  ·exact .inl h
  ·exact .inr (.inr (.inl h))
  ·exact .inr (.inr (.inr h)))).store (j := 0) rv' (fun p hp => by
  simp only [List.mem_cons] at hp
  rcases hp with rfl | rfl | hp
  ·exact n1
  ·exact fun e => n3 e.symm
  ·exact (n4 p hp).2.1)
 have e3 := (e2.sub (ks' := (bb, .cells #[v, u] 113 (0, 0)) :: (bl, .cells #[lv'] 3 (0, 0)) :: (br, .cells #[rv'] 3 (0, 0)) :: K) (fun p hp => by
  simp only [List.mem_cons] at hp ⊢
  rcases hp with h | h | h | h
  ·exact .inr (.inr (.inl h))
  ·exact .inr (.inl h)
  ·exact .inl h
  ·exact .inr (.inr (.inr h)))).store (j := 0) v' (fun p hp => by
  simp only [List.mem_cons] at hp
  rcases hp with rfl | rfl | hp
  ·exact n2
  ·exact n3
  ·exact (n4 p hp).2.2)
 have e4 := e3.store (j := 1) u' (fun p hp => by
  simp only [List.mem_cons] at hp
  rcases hp with rfl | rfl | hp
  ·exact n2
  ·exact n3
  ·exact (n4 p hp).2.2)
 refine ⟨e4.sub (fun p hp => ?_), h.k, h.kk, h.ks, h.kx, h.kl, h.ne, h.row⟩
 simp only [List.mem_cons] at hp ⊢
 rcases hp with h | h | h | h
 ·exact .inr (.inl h)
 ·exact .inr (.inr (.inl h))
 ·exact .inl h
 ·exact .inr (.inr (.inr h))
end

/-- the answer of a try -/
def TryP (w : World) (b : Bp) (T : List Tk) (wb E D : Nat) (l : Bits) (rd : Option (Nat × ByteArray × Nat)) (kb : Nat) (row : Array Value) (ls : List (Nat × Obj)) (bk bs bx bl br bb : Nat) (sv : Value) (q : Nat × Nat × Tk) (K : List (Nat × Obj)) (e : Ending) (w' : World) : Prop :=
 e = .returned (.tuple #[]) ∧ ∃ v u, TryS w b T wb E D l rd kb row ls bk bs bx bl br bb sv (.int .i64 (q.1 : Int)) (.int .i64 (q.2.1 : Int)) v u K w' ∧ Slot K q.2.2 v u
theorem TryS.fewer {w W : World} {b : Bp} {T : List Tk} {wb E D : Nat} {l : Bits} {rd : Option (Nat × ByteArray × Nat)} {kb : Nat} {row : Array Value} {ls : List (Nat × Obj)} {bk bs bx bl br bb : Nat} {sv lv rv v u : Value} {K K' : List (Nat × Obj)} (h : TryS w b T wb E D l rd kb row ls bk bs bx bl br bb sv lv rv v u K W)
  (hs : ∀ p ∈ K, p ∈ K') {lv' rv' v' u' : Value} {W2 : World} (g : TryS w b T wb E D l rd kb row ls bk bs bx bl br bb sv lv' rv' v' u' K' W2) : TryS w b T wb E D l rd kb row ls bk bs bx bl br bb sv lv' rv' v' u' K W2 :=
 ⟨g.fs.sub (fun p hp => by
  simp only [List.mem_cons] at hp ⊢
  rcases hp with h | h | h | h
  ·exact .inl h
  ·exact .inr (.inl h)
  ·exact .inr (.inr (.inl h))
  ·exact .inr (.inr (.inr (hs p h)))), h.k, h.kk, h.ks, h.kx, h.kl, h.ne, h.row⟩
def BackQ (b : Bp) (T : List Tk) (r : Nat) (size : Nat) (ls : List (Nat × Obj)) (w : World) (e : Ending) (w' : World) : Prop :=
 Below w.heap.size w w' ∧ ∃ v u bb, e = .returned (.tuple #[.agg #[v, u], .bool bb]) ∧ (∃ s n d c, v = .slice s n d ∧ u = .int .i64 c) ∧ (match backB b T r size with | none => bb = false | some t => bb = true ∧ Slot ls t v u)
theorem BackP.nat {b : Bp} {T : List Tk} {r : Nat} {size : Nat} {ls : List (Nat × Obj)} {w : World} {e : Ending} {w' : World} (h : BackP b T (r : Int) size ls w e w') : BackQ b T r size ls w e w' := by
 unfold BackP at h
 rw [if_pos (Int.natCast_nonneg _), Int.toNat_natCast] at h
 exact h
def TryT (w : World) (b : Bp) (T : List Tk) (wb E D : Nat) (l : Bits) (rd : Option (Nat × ByteArray × Nat)) (kb : Nat) (row : Array Value) (ls : List (Nat × Obj)) (bk bs bx bl br bb : Nat) (sv lv rv v u : Value) (K : List (Nat × Obj)) (r n : Nat) (v8 v9 : Value) (W : World) : Prop :=
 ∃ tb tv tu ok, v8 = .pointer (some ⟨tb, 0, none⟩) ∧ v9 = .bool ok ∧ (∃ s n d c, tv = .slice s n d ∧ tu = .int .i64 c) ∧ (match backB b T r n with | none => ok = false | some t => ok = true ∧ Slot ls t tv tu) ∧ TryS w b T wb E D l rd kb row ls bk bs bx bl br bb sv lv rv v u ((tb, .cells #[tv, tu] 113 (0, 0)) :: K) W
set_option maxRecDepth 100000 in
set_option maxHeartbeats 6400000 in
theorem try_any {w W : World} {b : Bp} {T : List Tk} {wb E D : Nat} {l : Bits} {rd : Option (Nat × ByteArray × Nat)} {kb : Nat} {row : Array Value} {ls : List (Nat × Obj)} {bk bs bx bl br bb : Nat} {a : Option Addr} {succ : List Nat} {cap : Nat} {v u : Value} {K : List (Nat × Obj)} {q : Nat × Nat × Tk}
  (h : TryS w b T wb E D l rd kb row ls bk bs bx bl br bb (.slice a succ.length cap) (.int .i64 (q.1 : Int)) (.int .i64 (q.2.1 : Int)) v u K W) (hG : GL w) (hb : b.p.ok) (hx : T.length < 65536) (hs : Ris succ) (hT : TOk T) (hc : succ.length ≤ cap) (hA : Seen w K a succ) (hsl : Slot K q.2.2 v u) (r : Nat) (hr : 1 ≤ r ∧ r ≤ 16) :
  Calls Tryd.prog 79 #[.int .i64 (r : Int), .pointer (some ⟨bk, 0, none⟩), .pointer (some ⟨bs, 0, none⟩), .pointer (some ⟨bx, 0, none⟩), .pointer (some ⟨bl, 0, none⟩), .pointer (some ⟨br, 0, none⟩), .pointer (some ⟨bb, 0, none⟩)] W
   (TryP w b T wb E D l rd kb row ls bk bs bx bl br bb (.slice a succ.length cap) (stepB b T succ q r) K) := by
 have hs9 := hs.len
 have BK : Hid (∀ W', TryS w b T wb E D l rd kb row ls bk bs bx bl br bb (.slice a succ.length cap) (.int .i64 (q.1 : Int)) (.int .i64 (q.2.1 : Int)) v u K W' → Calls Tryd.prog 80 #[.pointer (some ⟨kb, 5, none⟩), .int .i64 (r : Int), .int .i64 (succ.length : Int), .agg #[.int .i64 (b.p.win : Int), .int .i64 (b.depth : Int), .int .i64 (b.p.itv : Int), .int .i64 (b.p.zet : Int), .int .i64 (b.cap : Int)]] W' (BackQ b T r succ.length ls W')) :=
  Lib.hid (fun W' h' => (back_any b T (r : Int) succ.length ls W' kb 5 row _ (h'.has h'.k) h'.row.ring (by omega) hb.1 (by omega) (fun t ht => (hT t ht).len)).mono (fun _ _ h => h.nat))
 have H := Lib.hid h
 obtain ⟨c1, c2, c3, c4, c5, d0, d1, d2, d3, d4⟩ := h.cells
 obtain ⟨n, hn⟩ : ∃ n, succ.length = n := ⟨_, rfl⟩
 have HN := Lib.hid hn
 rw [hn] at BK H hc c2 hs9 ⊢
 clear h hn
 go_enter Tryd.func79, Tryd.ntmps79
 have MF : Hid (∀ W', Below W.heap.size W W' → W'.cell? ⟨bk, 0, none⟩ = some (.pointer (some ⟨kb, 0, none⟩)) ∧ W'.cell? ⟨bs, 0, none⟩ = some (.slice a n cap) ∧ W'.cell? ⟨kb, 0, none⟩ = some (.int .i64 (b.p.win : Int)) ∧ W'.cell? ⟨kb, 1, none⟩ = some (.int .i64 (b.depth : Int)) ∧ W'.cell? ⟨kb, 2, none⟩ = some (.int .i64 (b.p.itv : Int)) ∧ W'.cell? ⟨kb, 3, none⟩ = some (.int .i64 (b.p.zet : Int)) ∧ W'.cell? ⟨kb, 4, none⟩ = some (.int .i64 (b.cap : Int)) ∧ Below W.heap.size W W') := Lib.hid (fun W' k => by
  have cc : ∀ p v, W.cell? p = some v → W'.cell? p = some v := fun p v h => (k.cell (World.block_lt_of_cell? _ _ h)).trans h
  exact ⟨cc _ _ c1, cc _ _ c2, cc _ _ d0, cc _ _ d1, cc _ _ d2, cc _ _ d3, cc _ _ d4, k⟩)
 have KA : Hid (∀ W', Below W.heap.size W W' → Below W.heap.size W (W'.alloc (.cells #[.slice none 0 0, .int .i64 0] 113))) := Lib.hid (fun W' k => k.alloc k.size _)
 have KB : Hid (∀ W' o, Below W.heap.size W W' → Below W.heap.size W (W'.alloc o)) := Lib.hid (fun W' o k => k.alloc k.size _)
 have KS : Hid (∀ W' u1 u2, Below W.heap.size W W' → Below W.heap.size W ((W'.setCell ⟨W.heap.size, 0, none⟩ u1).setCell ⟨W.heap.size, 1, none⟩ u2)) := Lib.hid (fun W' u1 u2 k => (k.setCell (Nat.le_refl _) _).setCell (Nat.le_refl _) _)
 have KX : Hid (∀ W' W'', Below W.heap.size W W' → Below W'.heap.size W' W'' → Below W.heap.size W W'') := Lib.hid (fun W' W'' h k => h.trans (k.mono h.size))
 have NR : Hid (∀ (W' : World) (g : Nat), W'.heap[g]? = some (.cells #[.slice none 0 0, .int .i64 0] 113 (0, 0)) → W'.cell? ⟨g, 0, none⟩ = some (.slice none 0 0) ∧ W'.cell? ⟨g, 1, none⟩ = some (.int .i64 0) ∧ W'.frozen? ⟨g, 0, none⟩ = false ∧ W'.frozen? ⟨g, 1, none⟩ = false) := Lib.hid (fun W' g h => ⟨by rw [cell_of_row _ _ _ _ _ _ h]; rfl, by rw [cell_of_row _ _ _ _ _ _ h]; rfl, frozen_of_row W' g 0 _ _ h, frozen_of_row W' g 1 _ _ h⟩)
 have NB : Hid (∀ W' : World, (W'.alloc (.cells #[.slice none 0 0, .int .i64 0] 113)).cell? ⟨W'.heap.size, 0, none⟩ = some (.slice none 0 0) ∧ (W'.alloc (.cells #[.slice none 0 0, .int .i64 0] 113)).cell? ⟨W'.heap.size, 1, none⟩ = some (.int .i64 0) ∧ (W'.alloc (.cells #[.slice none 0 0, .int .i64 0] 113)).frozen? ⟨W'.heap.size, 0, none⟩ = false ∧ (W'.alloc (.cells #[.slice none 0 0, .int .i64 0] 113)).frozen? ⟨W'.heap.size, 1, none⟩ = false) := Lib.hid (fun W' => NR.out _ _ (heap_alloc_new W' _))
 go_upto_region 0 with fail
 go_cut [8, 9] from 12 to 25 (fun v8 v9 wc => TryT w b T wb E D l rd kb row ls bk bs bx bl br bb (.slice a n cap) (.int .i64 (q.1 : Int)) (.int .i64 (q.2.1 : Int)) v u K r n v8 v9 wc)
 case first =>
  have K0 := Below.refl W.heap.size W
  go_region_held3 (fun W' => W'.cell? ⟨bk, 0, none⟩ = some (.pointer (some ⟨kb, 0, none⟩)) ∧ W'.cell? ⟨bs, 0, none⟩ = some (.slice a n cap) ∧ W'.cell? ⟨kb, 0, none⟩ = some (.int .i64 (b.p.win : Int)) ∧ W'.cell? ⟨kb, 1, none⟩ = some (.int .i64 (b.depth : Int)) ∧ W'.cell? ⟨kb, 2, none⟩ = some (.int .i64 (b.p.itv : Int)) ∧ W'.cell? ⟨kb, 3, none⟩ = some (.int .i64 (b.p.zet : Int)) ∧ W'.cell? ⟨kb, 4, none⟩ = some (.int .i64 (b.cap : Int)) ∧ Below W.heap.size W W')
   (first
    | exact MF.out _ (by assumption)
    | exact MF.out _ (Below.drew (by assumption))
    | exact MF.out _ (KA.out _ (by assumption))
    | exact MF.out _ (Below.drew (KA.out _ (by assumption)))
    | exact MF.out _ (KB.out _ _ (by assumption))
    | exact MF.out _ (KS.out _ _ _ (by assumption)))
   (first
    | (go_at_call 80; (with_reducible refine (BK.out _ (H.out.next (by first | assumption | exact Below.drew (by assumption) | exact Below.drew (KA.out _ (by assumption))))).mono ?_); rintro e w5 ⟨k5, _, _, ok, rfl, ⟨s9, n9, d9, c9, rfl, rfl⟩, hok⟩; have k7 := (by first | exact KX.out _ _ (by assumption) k5 | exact KX.out _ _ (Below.drew (by assumption)) k5 | exact KX.out _ _ (Below.drew (KA.out _ (by assumption))) k5 : Below W.heap.size W w5); have nb := NB.out w5; obtain ⟨nb1, nb2, nb3, nb4⟩ := nb; (try (have rA : w5.heap[W.heap.size]? = some (.cells #[.slice none 0 0, .int .i64 0] 113 (0, 0)) := (k5.block _ (by simp)).trans (heap_alloc_new W _); obtain ⟨ra1, ra2, ra3, ra4⟩ := NR.out _ _ rA))))
  all_goals
   go_wp2_with fail
   refine Met.intro ?_
   apply_assumption
   (repeat apply Exists.intro)
   refine ⟨?_, rfl⟩
   first
    | exact ⟨_, _, _, ok, rfl, rfl, ⟨s9, n9, d9, c9, rfl, rfl⟩, hok, H.out.add (k7.alloc k7.size _) k7.size (heap_alloc_new w5 _)⟩
    | exact ⟨_, _, _, ok, rfl, rfl, ⟨s9, n9, d9, c9, rfl, rfl⟩, hok, H.out.add (KS.out _ _ _ k7) (Nat.le_refl _) (set2 _ _ rA (Nat.le_refl _) k7).1⟩
 case rest =>
  obtain ⟨tb, tv, tu, ok, rfl, rfl, ⟨s9, n9, d9, c9, rfl, rfl⟩, hok, hS⟩ := hcut
  have HS2 := Lib.hid hS
  clear hS c1 c2 c3 c4 c5 d0 d1 d2 d3 d4 MF KA KB KS KX NR NB BK
  cases hbk : backB b T r n with
  | none =>
   rw [hbk] at hok
   dsimp only at hok
   subst hok
   have SB : Hid (stepB b T succ q r = q) := Lib.hid (by unfold stepB; rw [HN.out, hbk])
   clear hbk
   go_wp2_with fail
   go_end0
   rw [SB.out]
   exact ⟨rfl, v, u, H.out.fewer (fun p hp => List.mem_cons_of_mem _ hp) HS2.out, hsl⟩
  | some t =>
   rw [hbk] at hok
   dsimp only at hok
   obtain ⟨rfl, s8, d8, e1, e2, hd8, hst8⟩ := hok
   injection e1 with e1a e1b e1c
   injection e2 with e2a e2b
   subst e1a e1b e1c e2b
   have BS := back_some hbk
   have HST := Lib.hid hst8
   have SB : Hid (stepB b T succ q r = if (lay T.length succ t.1 r b.p).length < q.1 then ((lay T.length succ t.1 r b.p).length, r, t) else q) := Lib.hid (by unfold stepB; rw [HN.out, hbk])
   have hmN : MayN T.length succ t.1 r b.p := by
    rw [BS.2.2.2.2]
    exact ⟨hb, hx, hs, tkOf_ris hT _, BS.2.2.1, .inl hr.1⟩
   have LL := lay_len hmN
   obtain ⟨nl, hnl⟩ : ∃ z, (lay T.length succ t.1 r b.p).length = z := ⟨_, rfl⟩
   have BI : Hid (∀ W', Below wc.heap.size wc W' → Calls Tryd.prog 9 #[.int .i64 (T.length : Int), .slice a n cap, .slice s9 t.1.length d9, .int .i64 (r : Int), .agg #[.int .i64 (b.p.win : Int), .int .i64 (b.p.itv : Int), .int .i64 (b.p.zet : Int)]] W' fun e w' => e = .returned (.tuple #[.int .i64 (nl : Int), .int .i64 0]) ∧ Below W'.heap.size W' w') := Lib.hid (fun W' k => by
    have hS := HS2.out.next k
    have h1 := lbits_yes b.p T.length W' (hG.below hS.fs.below) a succ cap s9 t.1 d9 r (by rw [HN.out]; exact hc) hd8 hmN (hA W' hS.fs.below (fun p hp => hS.has (List.mem_cons_of_mem _ hp))) (HST.out W' (fun p hp => hS.has (List.mem_cons_of_mem _ (H.out.kl p hp))))
    rw [HN.out, hnl] at h1
    exact h1)
   rw [hnl] at SB LL
   have BL := Lib.hid (fun W' => blist_any (b.p.win : Int) (b.depth : Int) (b.p.itv : Int) (b.p.zet : Int) (b.cap : Int) W')
   unfold bpV parV at BL
   obtain ⟨c1, c2, c3, c4, c5, d0, d1, d2, d3, d4⟩ := HS2.out.cells
   have c6 : wc.cell? ⟨tb, 0, none⟩ = some (.slice s9 t.1.length d9) := by rw [cell_of_row _ _ _ _ _ _ (HS2.out.has (List.mem_cons_self ..))]; rfl
   have MF : Hid (∀ W', Below wc.heap.size wc W' → W'.cell? ⟨bk, 0, none⟩ = some (.pointer (some ⟨kb, 0, none⟩)) ∧ W'.cell? ⟨bs, 0, none⟩ = some (.slice a n cap) ∧ W'.cell? ⟨bx, 0, none⟩ = some (.int .i64 (T.length : Int)) ∧ W'.cell? ⟨kb, 0, none⟩ = some (.int .i64 (b.p.win : Int)) ∧ W'.cell? ⟨kb, 1, none⟩ = some (.int .i64 (b.depth : Int)) ∧ W'.cell? ⟨kb, 2, none⟩ = some (.int .i64 (b.p.itv : Int)) ∧ W'.cell? ⟨kb, 3, none⟩ = some (.int .i64 (b.p.zet : Int)) ∧ W'.cell? ⟨kb, 4, none⟩ = some (.int .i64 (b.cap : Int)) ∧ W'.cell? ⟨tb, 0, none⟩ = some (.slice s9 t.1.length d9) ∧ Below wc.heap.size wc W') := Lib.hid (fun W' k => by
    have cc : ∀ p v, wc.cell? p = some v → W'.cell? p = some v := fun p v h => (k.cell (World.block_lt_of_cell? _ _ h)).trans h
    exact ⟨cc _ _ c1, cc _ _ c2, cc _ _ c3, cc _ _ d0, cc _ _ d1, cc _ _ d2, cc _ _ d3, cc _ _ d4, cc _ _ c6, k⟩)
   have KX : Hid (∀ W' W'', Below wc.heap.size wc W' → Below W'.heap.size W' W'' → Below wc.heap.size wc W'') := Lib.hid (fun W' W'' h k => h.trans (k.mono h.size))
   have HQ := Lib.hid hsl
   clear hnl hmN hbk BS hst8 hsl e2a
   go_upto_region 2 with fail
   have K0 := Below.refl wc.heap.size wc
   go_region_held3 (fun W' => W'.cell? ⟨bk, 0, none⟩ = some (.pointer (some ⟨kb, 0, none⟩)) ∧ W'.cell? ⟨bs, 0, none⟩ = some (.slice a n cap) ∧ W'.cell? ⟨bx, 0, none⟩ = some (.int .i64 (T.length : Int)) ∧ W'.cell? ⟨kb, 0, none⟩ = some (.int .i64 (b.p.win : Int)) ∧ W'.cell? ⟨kb, 1, none⟩ = some (.int .i64 (b.depth : Int)) ∧ W'.cell? ⟨kb, 2, none⟩ = some (.int .i64 (b.p.itv : Int)) ∧ W'.cell? ⟨kb, 3, none⟩ = some (.int .i64 (b.p.zet : Int)) ∧ W'.cell? ⟨kb, 4, none⟩ = some (.int .i64 (b.cap : Int)) ∧ W'.cell? ⟨tb, 0, none⟩ = some (.slice s9 t.1.length d9) ∧ Below wc.heap.size wc W')
    (first | exact MF.out _ (by assumption) | exact MF.out _ (Below.drew (by assumption)))
    (first
     | (go_at_call 78; (with_reducible refine (BL.out _).mono ?_); rintro e w5 ⟨rfl, k5⟩; have k6 := (by first | exact KX.out _ _ (by assumption) k5 | exact KX.out _ _ (Below.drew (by assumption)) k5 : Below wc.heap.size wc w5))
     | (go_at_call 9; (with_reducible refine (BI.out _ (by first | exact k6 | exact Below.drew k6)).mono ?_); rintro e w6 ⟨rfl, k7⟩; have k8 := (by first | exact KX.out _ _ k6 k7 | exact KX.out _ _ (Below.drew k6) k7 : Below wc.heap.size wc w6)))
   have HS3 := Lib.hid (HS2.out.next k8)
   clear K0 k5 k6 k7 k8 MF KX BL BI HS2 c1 c2 c3 c4 c5 d0 d1 d2 d3 d4 c6
   obtain ⟨c1, c2, c3, c4, c5, d0, d1, d2, d3, d4⟩ := HS3.out.cells
   have c6 : w6.cell? ⟨tb, 0, none⟩ = some (.slice s9 t.1.length d9) := by rw [cell_of_row _ _ _ _ _ _ (HS3.out.has (List.mem_cons_self ..))]; rfl
   have c7 : w6.cell? ⟨tb, 1, none⟩ = some (.int .i64 (t.2 : Int)) := by rw [cell_of_row _ _ _ _ _ _ (HS3.out.has (List.mem_cons_self ..))]; rfl
   by_cases hlt : nl < q.1
   ·have i1 : decide ((nl : Int) < (q.1 : Int)) = true := decide_eq_true (by omega)
    rw [if_pos hlt] at SB
    obtain ⟨n1, n2, n3, nK⟩ := HS3.out.ne
    obtain ⟨m1, m2, m3⟩ := nK _ (List.mem_cons_self ..)
    dsimp only at m1 m2 m3
    have r1 := HS3.out.fs.row (List.mem_cons_self ..)
    have r2 := HS3.out.fs.row (List.mem_cons_of_mem _ (List.mem_cons_self ..))
    have r3 := HS3.out.fs.row (List.mem_cons_of_mem _ (List.mem_cons_of_mem _ (List.mem_cons_self ..)))
    go_upto_region 4 with fail
    have e8 : w6.cell? ⟨bb, 0, none⟩ = some v := by rw [cell_of_row _ _ _ _ _ _ r3]; rfl
    have e9 : w6.cell? ⟨bb, 1, none⟩ = some u := by rw [cell_of_row _ _ _ _ _ _ r3]; rfl
    have g4 : w6.frozen? ⟨bl, 0, none⟩ = false := frozen_of_row w6 _ 0 _ _ r1
    have g5 : w6.frozen? ⟨br, 0, none⟩ = false := frozen_of_row w6 _ 0 _ _ r2
    have g8 : w6.frozen? ⟨bb, 0, none⟩ = false := frozen_of_row w6 _ 0 _ _ r3
    have g9 : w6.frozen? ⟨bb, 1, none⟩ = false := frozen_of_row w6 _ 1 _ _ r3
    have c4d : w6.drew.cell? ⟨bl, 0, none⟩ = some (.int .i64 (q.1 : Int)) := c4
    have c5d : w6.drew.cell? ⟨br, 0, none⟩ = some (.int .i64 (q.2.1 : Int)) := c5
    have c6d : w6.drew.cell? ⟨tb, 0, none⟩ = some (.slice s9 t.1.length d9) := c6
    have c7d : w6.drew.cell? ⟨tb, 1, none⟩ = some (.int .i64 (t.2 : Int)) := c7
    have e8d : w6.drew.cell? ⟨bb, 0, none⟩ = some v := e8
    have e9d : w6.drew.cell? ⟨bb, 1, none⟩ = some u := e9
    have g4d : w6.drew.frozen? ⟨bl, 0, none⟩ = false := g4
    have g5d : w6.drew.frozen? ⟨br, 0, none⟩ = false := g5
    have g8d : w6.drew.frozen? ⟨bb, 0, none⟩ = false := g8
    have g9d : w6.drew.frozen? ⟨bb, 1, none⟩ = false := g9
    clear c1 c2 c3 d0 d1 d2 d3 d4 r1 r2 r3 nK
    go_big_region
    go_end0
    rw [SB.out]
    exact ⟨rfl, _, _, H.out.fewer (fun p hp => List.mem_cons_of_mem _ hp) (HS3.out.set (.int .i64 (nl : Int)) (.int .i64 (r : Int)) (.slice s9 t.1.length d9) (.int .i64 (t.2 : Int))).drew, s9, d9, rfl, rfl, hd8, HST.out.more H.out.kl⟩
   ·have i1 : decide ((nl : Int) < (q.1 : Int)) = false := decide_eq_false (by omega)
    rw [if_neg hlt] at SB
    clear c1 c2 c3 c5 d0 d1 d2 d3 d4 c6 c7
    go_wp2_with fail
    go_end0
    rw [SB.out]
    exact ⟨rfl, v, u, H.out.fewer (fun p hp => List.mem_cons_of_mem _ hp) HS3.out, HQ.out⟩
end Go.Proofs.YtflnpcgnenhogaaDoor.ls
namespace Go.Proofs.YtflnpcgnenhogaaDoor.ls
open Go.RowKit Go.Proofs.YtflnpcgnenhogaaDoor.own Go.Proofs.YtflnpcgnenhogaaDoor.bit

/-- lists of numbers in memory that are only read -/
def LLs (w : World) (a : Option Addr) (G : List (List Nat)) : Prop :=
 G.length ≤ 4611686018427387903 ∧ ∀ i (h : i < G.length), ∃ g o s d, a = some ⟨g, o, none⟩ ∧ g < w.heap.size ∧ w.cell? ⟨g, o + i, none⟩ = some (.slice s G[i].length d) ∧ G[i].length ≤ d ∧ LV w s G[i]
theorem LLs.below {w w' : World} {a : Option Addr} {G : List (List Nat)} (h : LLs w a G) (k : Below w.heap.size w w') : LLs w' a G :=
 ⟨h.1, fun i hi => by
  obtain ⟨g, o, s, d, h1, h2, h3, h4, h5⟩ := h.2 i hi
  exact ⟨g, o, s, d, h1, Nat.lt_of_lt_of_le h2 k.size, (k.cell (p := ⟨g, o + i, none⟩) h2).trans h3, h4, h5.below k⟩⟩
/-- numbers of 64 bits that are only read -/
def UV (w : World) (a : Option Addr) (l : List Nat) : Prop :=
 l.length ≤ 4611686018427387903 ∧ ∀ i (h : i < l.length), ∃ g o, a = some ⟨g, o, none⟩ ∧ g < w.heap.size ∧ w.cell? ⟨g, o + i, none⟩ = some (.int .u64 (l[i] : Int))
set_option maxRecDepth 100000 in
set_option maxHeartbeats 3200000 in
theorem usame_any (w : World) (a b : Option Addr) (l : List Nat) (ca cb : Nat) (hA : UV w a l) (hB : UV w b l) :
  Calls Tryd.prog 32 #[.slice a l.length ca, .slice b l.length cb] w fun e w' => e = .returned (.bool true) ∧ Below w.heap.size w w' := by
 have HA := Lib.hid hA
 have HB := Lib.hid hB
 have hz := hA.1
 obtain ⟨n, hn⟩ : ∃ n, l.length = n := ⟨_, rfl⟩
 have HN := Lib.hid hn
 rw [hn] at hz ⊢
 clear hA hB hn
 have hnn : ((n : Int) != (n : Int)) = false := by simp
 go_enter Tryd.func32, Tryd.ntmps32
 go_wp2_with fail
 go_loopw [5] (fun v5 wr => ∃ i q : Nat, v5 = .int .i64 (i : Int) ∧ i ≤ n ∧ wr = w.drewN q) (fun v5 _ => n - (intOf v5).toNat)
 case atStart => exact ⟨0, 0, rfl, Nat.zero_le _, rfl⟩
 case round =>
  obtain ⟨i, q, rfl, hi, rfl⟩ := hrel
  by_cases hlt : i < n
  ·obtain ⟨g, o, rfl, hg, hc⟩ := HA.out.2 i (by rw [HN.out]; exact hlt)
   obtain ⟨g2, o2, rfl, hg2, hc2⟩ := HB.out.2 i (by rw [HN.out]; exact hlt)
   obtain ⟨v, hv⟩ : ∃ v, l[i]'(by rw [HN.out]; exact hlt) = v := ⟨_, rfl⟩
   rw [hv] at hc hc2
   have i1 : decide ((i : Int) < (n : Int)) = true := decide_eq_true (by omega)
   have i2 : ((v : Int) != (v : Int)) = false := by simp
   clear hv
   go_upto_region 6 with fail
   go_quiet (fail)
   go_wp2_with fail
   go_roundw
   case rel => exact ⟨i + 1, _, by go_num, by omega, (by first | rfl | exact drewN_add _ _ _)⟩
   case measure => simp [intOf]; omega
  ·have i1 : decide ((i : Int) < (n : Int)) = false := decide_eq_false (by omega)
   go_wp2_with fail
   go_ret
   exact ⟨rfl, ⟨rfl, rfl, rfl, Nat.le_refl _, fun _ _ => rfl⟩⟩
set_option maxRecDepth 100000 in
set_option maxHeartbeats 3200000 in
theorem alike_same (w : World) (a b : Option Addr) (G : List (List Nat)) (ca cb : Nat) (hA : LLs w a G) (hB : LLs w b G) :
  Calls Tryd.prog 31 #[.slice a G.length ca, .slice b G.length cb] w fun e w' => e = .returned (.bool true) ∧ Below w.heap.size w w' := by
 have HA := Lib.hid hA
 have HB := Lib.hid hB
 have hz := hA.1
 obtain ⟨n, hn⟩ : ∃ n, G.length = n := ⟨_, rfl⟩
 have HN := Lib.hid hn
 rw [hn] at hz ⊢
 clear hA hB hn
 have hnn : ((n : Int) != (n : Int)) = false := by simp
 go_enter Tryd.func31, Tryd.ntmps31
 go_wp2_with fail
 go_loopw [5] (fun v5 wr => ∃ i q : Nat, v5 = .int .i64 (i : Int) ∧ i ≤ n ∧ wr = w.drewN q) (fun v5 _ => n - (intOf v5).toNat)
 case atStart => exact ⟨0, 0, rfl, Nat.zero_le _, rfl⟩
 case round =>
  obtain ⟨i, q, rfl, hi, rfl⟩ := hrel
  by_cases hlt : i < n
  ·obtain ⟨g, o, s, d, rfl, hg, hc, hd, hs⟩ := HA.out.2 i (by rw [HN.out]; exact hlt)
   obtain ⟨g2, o2, s2, d2, rfl, hg2, hc2, hd2, hs2⟩ := HB.out.2 i (by rw [HN.out]; exact hlt)
   have HS := Lib.hid (And.intro hs hs2)
   obtain ⟨l, hl⟩ : ∃ l, G[i]'(by rw [HN.out]; exact hlt) = l := ⟨_, rfl⟩
   rw [hl] at hc hd hc2 hd2 HS
   have hm9 := HS.out.1.1
   obtain ⟨m, hm⟩ : ∃ m, l.length = m := ⟨_, rfl⟩
   have HM := Lib.hid hm
   rw [hm] at hc hd hc2 hd2 hm9
   have i1 : decide ((i : Int) < (n : Int)) = true := decide_eq_true (by omega)
   have i2 : ((m : Int) != (m : Int)) = false := by simp
   clear hl hm hs hs2
   go_upto_region 6 with fail
   go_quiet (fail)
   generalize hq2 : nq = q2
   clear hq2
   go_wp2_with fail
   go_loopw [6] (fun v6 wr => ∃ j q : Nat, v6 = .int .i64 (j : Int) ∧ j ≤ m ∧ wr = w.drewN q) (fun v6 _ => m - (intOf v6).toNat)
   case atStart => exact ⟨0, _, rfl, Nat.zero_le _, (by first | rfl | exact drewN_add _ _ _)⟩
   case round =>
    obtain ⟨j, q, rfl, hj, rfl⟩ := hrel
    by_cases hjt : j < m
    ·obtain ⟨g3, o3, rfl, hg3, hc3, hb3⟩ := HS.out.1.2 j (by rw [HM.out]; exact hjt)
     obtain ⟨g4, o4, rfl, hg4, hc4, hb4⟩ := HS.out.2.2 j (by rw [HM.out]; exact hjt)
     obtain ⟨v, hv⟩ : ∃ v, l[j]'(by rw [HM.out]; exact hjt) = v := ⟨_, rfl⟩
     rw [hv] at hc3 hc4
     have j1 : decide ((j : Int) < (m : Int)) = true := decide_eq_true (by omega)
     have j2 : ((v : Int) != (v : Int)) = false := by simp
     clear hv hb3 hb4
     go_upto_region 11 with fail
     go_quiet (fail)
     go_wp2_with fail
     go_roundw
     case rel => exact ⟨j + 1, _, by go_num, by omega, (by first | rfl | exact drewN_add _ _ _)⟩
     case measure => simp [intOf]; omega
    ·have j1 : decide ((j : Int) < (m : Int)) = false := decide_eq_false (by omega)
     go_wp2_with fail
     go_roundw
     case rel => exact ⟨i + 1, _, by go_num, by omega, (by first | rfl | exact drewN_add _ _ _)⟩
     case measure => simp [intOf]; omega
  ·have i1 : decide ((i : Int) < (n : Int)) = false := decide_eq_false (by omega)
   go_wp2_with fail
   go_ret
   exact ⟨rfl, ⟨rfl, rfl, rfl, Nat.le_refl _, fun _ _ => rfl⟩⟩
end Go.Proofs.YtflnpcgnenhogaaDoor.ls
