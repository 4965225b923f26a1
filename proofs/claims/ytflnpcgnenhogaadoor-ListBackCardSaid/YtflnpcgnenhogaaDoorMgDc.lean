/- list: the taker: a whole list, walked. Lists, in plain Lean: what a lay says as a head. No program in sight. list: what anew holds on its way: the reader, a writer, another reader, rows. list: anew, walked. -/
import Derived.Test.YtflnpcgnenhogaaDoorMgDb
import Derived.Test.YtflnpcgnenhogaaDoorMgSb
import Derived.Test.YtflnpcgnenhogaaDoorMgDa
namespace Go.Proofs.YtflnpcgnenhogaaDoor.ls
open Go.RowKit Go.Proofs.YtflnpcgnenhogaaDoor.own Go.Proofs.YtflnpcgnenhogaaDoor.bit

/-- a call that takes another list, the list so far beside -/
theorem TR.call {x : Nat → Nat} {d t u : Nat} {w W : World} {rb qb a : Nat} {s : ByteArray} {bad : Bool} {ks : List (Nat × Obj)} {l : List Nat} {v : Value} (h : TR x d t u w rb qb s a bad ks l v W) {f : Nat} {args : Array Value} {P : List Nat → Nat → Bool → Prop}
    (hc : ∀ ks1, TK x d t u w rb qb s a bad ks1 W → Calls Tryd.prog f args W (ListE P x d t u w rb qb s ks1)) :
    Calls Tryd.prog f args W fun e w' => ∃ (v2 : Value) (l2 : List Nat) (a' : Nat) (bad' : Bool), e = .returned v2 ∧ P l2 a' bad' ∧ w'.ownsRow 0 60 1 v2 l2.length (u32V l2) ∧ TR x d t u w rb qb s a' bad' ks l v w' := by
  obtain ⟨h1, ks', h2, h3, h4, h5⟩ := h
  refine (hc _ h5).mono ?_
  rintro e w' ⟨v2, l2, a', bad', rfl, hp, h6⟩
  refine ⟨v2, l2, a', bad', rfl, hp, h6.1, own_same h1 (fun g hg => ?_), ks', h2, h3, h4, h6.base⟩
  obtain ⟨o, ho⟩ := h2 g hg
  have e1 := h5.1.row (b := g) (o := o) (List.mem_cons_of_mem _ (List.mem_append_left _ ho))
  have e2 := h6.base.1.row (b := g) (o := o) (List.mem_cons_of_mem _ (List.mem_append_left _ ho))
  rw [e1, e2]
theorem u32V_int (l : List Nat) : u32V l = (l.map fun n : Nat => (n : Int)).map so.U := by
  unfold u32V
  rw [List.map_map]
  rfl
theorem srt_nat (l : List Nat) : so.srt (l.map fun n : Nat => (n : Int)) = (srtN l).map fun n : Nat => (n : Int) := by
  unfold so.srt srtN
  rw [List.map_mergeSort]
  intro a _ b _
  exact decide_eq_decide.2 Int.ofNat_le.symm
theorem srtN_length (l : List Nat) : (srtN l).length = l.length := (srtN_perm l).length_eq
theorem TR.sort {x : Nat → Nat} {d t u : Nat} (hdu : d ≠ u) {w W : World} {rb qb a : Nat} {s : ByteArray} {bad : Bool} {ks : List (Nat × Obj)} {l : List Nat} {v : Value} (h : TR x d t u w rb qb s a bad ks l v W) (hl : l.length < 4611686018427387904) :
    Calls Tryd.prog 76 #[v] W fun e w' => e = .returned (.tuple #[]) ∧ TR x d t u w rb qb s a bad ks (srtN l) v w' := by
  have h1 := h.1
  have e := u32V_int l
  have hn : (l.map fun n : Nat => (n : Int)).length = l.length := List.length_map ..
  refine (so.sort_row W 0 v (l.map fun n : Nat => (n : Int)) (by rw [hn, ← e]; exact h1) (by rw [hn]; exact hl)).mono ?_
  rintro e w' ⟨rfl, h2, h3⟩
  refine ⟨rfl, h.set hdu (srtN l) ?_ h3 (.inl rfl)⟩
  rw [hn, srt_nat, ← u32V_int] at h2
  rw [srtN_length]
  exact h2
/-- what a list's taking says -/
def ParP (o : Option (List Nat × List Nat × List Nat × Nat)) (deg : Nat) (l : List Nat) (a' : Nat) (bad : Bool) : Prop :=
  l.length ≤ 200000 ∧ (∀ v ∈ l, v < 65536) ∧ (bad = true → o = none) ∧ (bad = false → (∃ c l1 z, o = some (c, l1, z, a') ∧ l = srtN (c ++ l1 ++ z)) ∨ (o = none ∧ deg < l.length))
def cop0 (B : Bits) (ref : List Nat) (r a : Nat) : Option (List Nat × Nat) := if 0 < r then copies B ref a else some ([], a)
def lng0 (B : Bits) (x deg itv : Nat) (c : List Nat) (a : Nat) : Option (List Nat × Nat) := if c.length < deg ∧ 0 < itv then longs B x (deg - c.length) itv a else some ([], a)
theorem pars_eq (B : Bits) (x deg : Nat) (ref : List Nat) (r : Nat) (p : Pr) (a : Nat) : pars B x deg ref r p a = (cop0 B ref r a).bind fun c => if deg < c.1.length then none else (lng0 B x deg p.itv c.1 c.2).bind fun l => (rsd B x p.zet (deg - c.1.length - l.1.length) none l.2).map fun z => (c.1, l.1, z.1, z.2) := rfl
/-- behind what is copied -/
def S1 (O : Option (List Nat × List Nat × List Nat × Nat)) (C0 : Option (List Nat × Nat)) (m : Nat) (c : List Nat) (a1 : Nat) (bad : Bool) : Prop := c.length ≤ m ∧ (∀ v ∈ c, v < 65536) ∧ (bad = true → O = none) ∧ (bad = false → C0 = some (c, a1))
/-- behind the rows -/
def S2 (O : Option (List Nat × List Nat × List Nat × Nat)) (C0 : Option (List Nat × Nat)) (L0 : List Nat → Nat → Option (List Nat × Nat)) (deg : Nat) (l : List Nat) (a2 : Nat) (bad : Bool) : Prop := l.length ≤ 131072 ∧ (∀ v ∈ l, v < 65536) ∧ (bad = true → O = none) ∧
  (bad = false → ∃ c l1 a1, C0 = some (c, a1) ∧ L0 c a1 = some (l1, a2) ∧ l = c ++ l1 ∧ (deg ≤ c.length → l1 = []) ∧ (c.length ≤ deg → c.length + l1.length ≤ deg))
def S3 (O : Option (List Nat × List Nat × List Nat × Nat)) (C0 : Option (List Nat × Nat)) (L0 : List Nat → Nat → Option (List Nat × Nat)) (Z0 : Nat → Nat → Option (List Nat × Nat)) (deg : Nat) (l : List Nat) (a3 : Nat) (bad : Bool) : Prop := l.length ≤ 200000 ∧ (∀ v ∈ l, v < 65536) ∧ (bad = true → O = none) ∧
  (bad = false → ∃ c l1 a1 a2 z, C0 = some (c, a1) ∧ L0 c a1 = some (l1, a2) ∧ l = c ++ l1 ++ z ∧ (c.length ≤ deg → Z0 (deg - c.length - l1.length) a2 = some (z, a3)))
def TS (S : List Nat → Nat → Bool → Prop) (x : Nat → Nat) (d t u : Nat) (w : World) (rb qb : Nat) (s : ByteArray) (ks : List (Nat × Obj)) (v : Value) (W : World) : Prop := ∃ l a bad, S l a bad ∧ TR x d t u w rb qb s a bad ks l v W
theorem S3.fin {B : Bits} {x deg : Nat} {ref : List Nat} {r : Nat} {p : Pr} {a : Nat} {l : List Nat} {a3 : Nat} {bad : Bool} (h : S3 (pars B x deg ref r p a) (cop0 B ref r a) (lng0 B x deg p.itv) (fun n a => rsd B x p.zet n none a) deg l a3 bad) : ParP (pars B x deg ref r p a) deg (srtN l) a3 bad := by
  obtain ⟨h1, h2, h3, h4⟩ := h
  refine ⟨by rw [srtN_length]; exact h1, fun v hv => h2 v ((srtN_perm l).subset hv), h3, fun hb => ?_⟩
  obtain ⟨c, l1, a1, a2, z, e1, e2, e3, e4⟩ := h4 hb
  rw [pars_eq, e1, Option.bind_some]
  by_cases hd : deg < c.length
  · rw [if_pos hd]
    refine .inr ⟨rfl, ?_⟩
    rw [srtN_length, e3, List.length_append, List.length_append]
    omega
  · rw [if_neg hd]
    dsimp only
    rw [e2, Option.bind_some]
    dsimp only
    have := e4 (by omega)
    dsimp only at this
    rw [this]
    exact .inl ⟨c, l1, z, rfl, by rw [e3]⟩
set_option maxRecDepth 100000 in
set_option maxHeartbeats 6400000 in
theorem list_any (x : Nat → Nat) (d t u : Nat) (hdt : d ≠ t) (hdu : d ≠ u) (htu : t ≠ u) (w : World) (hG : GL w) (hgl : GlC x d t u) (rb qb : Nat) (s : ByteArray) (a : Nat) (ks : List (Nat × Obj)) (W : World) (h : TK x d t u w rb qb s a false ks W)
    (xv deg r : Nat) (p : Pr) (hx : xv < 65536) (hd : deg ≤ 65536) (hr : r ≤ 16) (hp : p.ok) (ar : Option Addr) (ref : List Nat) (cap : Nat) (hcap : ref.length ≤ cap) (hlen : ref.length ≤ 65536) (hb : ∀ v ∈ ref, v < 65536) (hA : LV w ar ref) (hc : Apt x d t u ar ref) :
    Calls Tryd.prog 43 #[.pointer (some ⟨qb, 0, none⟩), .int .i64 (xv : Int), .agg #[.int .i64 (deg : Int), .int .i64 (r : Int)], .slice ar ref.length cap, parV (p.win : Int) (p.itv : Int) (p.zet : Int)] W (ListE (ParP (pars (unpack (nats s)) xv deg ref r p a) deg) x d t u w rb qb s ks) := by
  obtain ⟨j0, hj, hj0, hj1, hj2⟩ := info_parts Tryd.infoU32
  have HDU := Lib.hid hdu
  have h0 := (h.keep #[.int .i64 (deg : Int), .int .i64 (r : Int)] 55).keep #[.int .i64 (p.win : Int), .int .i64 (p.itv : Int), .int .i64 (p.zet : Int)] 38
  obtain ⟨sz, hsz⟩ : ∃ z, W.heap.size = z := ⟨_, rfl⟩
  have hsz2 : (W.alloc (.cells #[.int .i64 (deg : Int), .int .i64 (r : Int)] 55)).heap.size = sz + 1 := by simp [hsz]
  rw [hsz2, hsz] at h0
  obtain ⟨ks1, hks⟩ : ∃ k, (sz + 1, Obj.cells #[.int .i64 (p.win : Int), .int .i64 (p.itv : Int), .int .i64 (p.zet : Int)] 38 (0, 0)) :: (sz, Obj.cells #[.int .i64 (deg : Int), .int .i64 (r : Int)] 55 (0, 0)) :: ks = k := ⟨_, rfl⟩
  have M1 : Hid ((sz + 1, Obj.cells #[.int .i64 (p.win : Int), .int .i64 (p.itv : Int), .int .i64 (p.zet : Int)] 38 (0, 0)) ∈ ks1) := Lib.hid (by rw [← hks]; exact List.mem_cons_self ..)
  have M2 : Hid ((sz, Obj.cells #[.int .i64 (deg : Int), .int .i64 (r : Int)] 55 (0, 0)) ∈ ks1) := Lib.hid (by rw [← hks]; exact List.mem_cons_of_mem _ (List.mem_cons_self ..))
  have HS : Hid (∀ p ∈ ks, p ∈ ks1) := Lib.hid (fun p hp => by rw [← hks]; exact List.mem_cons_of_mem _ (List.mem_cons_of_mem _ hp))
  rw [hks] at h0
  obtain ⟨win, itv, zet⟩ := p
  obtain ⟨hp1, hp2, hp3⟩ := hp
  dsimp only at hp1 hp2 hp3 h0 M1 ⊢
  unfold parV
  obtain ⟨B, hB⟩ : ∃ B, unpack (nats s) = B := ⟨_, rfl⟩
  have CP : Hid (∀ W, TK x d t u w rb qb s a false ks1 W → Calls Tryd.prog 73 #[.pointer (some ⟨qb, 0, none⟩), .slice ar ref.length cap] W (ListE (CopP (copies B ref a) ref.length) x d t u w rb qb s ks1)) := Lib.hid (fun W h => by
    rw [← hB]
    exact copies_any x d t u hdt hdu htu w hG hgl rb qb s a ks1 W h ar ref cap hcap hlen hb hA hc)
  have LG : Hid (∀ (l : List Nat) (v : Value) (a1 : Nat) (W : World) (most : Nat), TR x d t u w rb qb s a1 false ks1 l v W → most ≤ 65536 → 1 ≤ itv → Calls Tryd.prog 74 #[.pointer (some ⟨qb, 0, none⟩), .int .i64 (xv : Int), .int .i64 (most : Int), .int .i64 (itv : Int)] W fun e w' => ∃ (v2 : Value) (l2 : List Nat) (a' : Nat) (bad' : Bool), e = .returned v2 ∧ CopP (longs B xv most itv a1) most l2 a' bad' ∧ w'.ownsRow 0 60 1 v2 l2.length (u32V l2) ∧ TR x d t u w rb qb s a' bad' ks1 l v w') := Lib.hid (fun l v a1 W most h hm hi => h.call (P := CopP (longs B xv most itv a1) most) (fun ks2 h2 => by
    rw [← hB]
    exact long_any x d t u hdt hdu htu w hG hgl rb qb s a1 ks2 W h2 xv most itv hx hm hi (by omega)))
  have RS : Hid (∀ (l : List Nat) (v : Value) (a1 : Nat) (W : World) (n : Nat), TR x d t u w rb qb s a1 false ks1 l v W → n ≤ 65536 → Calls Tryd.prog 75 #[.pointer (some ⟨qb, 0, none⟩), .int .i64 (xv : Int), .int .i64 (n : Int), .agg #[.int .u8 3, .int .u64 (zet : Int)]] W fun e w' => ∃ (v2 : Value) (l2 : List Nat) (a' : Nat) (bad' : Bool), e = .returned v2 ∧ CopP (rsd B xv zet n none a1) n l2 a' bad' ∧ w'.ownsRow 0 60 1 v2 l2.length (u32V l2) ∧ TR x d t u w rb qb s a' bad' ks1 l v w') := Lib.hid (fun l v a1 W n h hn => h.call (P := CopP (rsd B xv zet n none a1) n) (fun ks2 h2 => by
    rw [← hB]
    exact residuals_any x d t u hdt hdu htu w rb qb s a1 ks2 W h2 xv n zet hx hn hp3))
  rw [hB]
  have FIN := Lib.hid (fun l a3 bad (h : S3 (pars B xv deg ref r ⟨win, itv, zet⟩ a) (cop0 B ref r a) (lng0 B xv deg itv) (fun n a => rsd B xv zet n none a) deg l a3 bad) => h.fin)
  obtain ⟨O, hO⟩ : ∃ O, pars B xv deg ref r ⟨win, itv, zet⟩ a = O := ⟨_, rfl⟩
  have PE := Lib.hid (hO ▸ (pars_eq B xv deg ref r ⟨win, itv, zet⟩ a))
  rw [hO] at FIN ⊢
  obtain ⟨n0, hn0⟩ : ∃ n, ref.length = n := ⟨_, rfl⟩
  rw [hn0] at CP hcap hlen ⊢
  have hz16 : zet ≤ 16 := hp3.2
  clear hdt hdu htu h hB hO hks hp3 hn0 hb hA hc hG hgl
  go_enter Tryd.func43, Tryd.ntmps43
  go_upto_region 1 with fail
  generalize World.alloc (World.alloc W _) _ = W0 at h0 ⊢
  have HC : Hid (∀ (W : World) (l : List Nat) (v : Value) (a : Nat) (bad : Bool), TR x d t u w rb qb s a bad ks1 l v W → W.cell? ⟨sz, 0, none⟩ = some (.int .i64 (deg : Int)) ∧ W.cell? ⟨sz, 1, none⟩ = some (.int .i64 (r : Int)) ∧ W.cell? ⟨sz + 1, 1, none⟩ = some (.int .i64 (itv : Int)) ∧ W.cell? ⟨sz + 1, 2, none⟩ = some (.int .i64 (zet : Int))) := Lib.hid (fun W l v a bad h => by
    have r1 := h.re.row M1.out
    have r2 := h.re.row M2.out
    refine ⟨by rw [cell_of_row _ _ _ _ _ _ r2]; rfl, by rw [cell_of_row _ _ _ _ _ _ r2]; rfl, by rw [cell_of_row _ _ _ _ _ _ r1]; rfl, by rw [cell_of_row _ _ _ _ _ _ r1]; rfl⟩)
  have H0 := Lib.hid (TR.nil h0)
  have K0 := Lib.hid h0
  obtain ⟨c0, c1, c2, c3⟩ := HC.out _ _ _ _ _ H0.out
  obtain ⟨C0, hC0⟩ : ∃ C, cop0 B ref r a = C := ⟨_, rfl⟩
  have HC0 := Lib.hid hC0
  rw [hC0] at FIN PE
  clear h0 hsz hsz2 hC0
  go_upto_if 16 with fail
  go_cut [11] from 14 to 19 (fun v11 wc => TS (S1 O C0 n0) x d t u w rb qb s ks1 v11 wc)
  case first =>
    by_cases hr0 : 0 < r
    · have i1 : decide ((0 : Int) < (r : Int)) = true := decide_eq_true (by omega)
      have i1n : decide (0 < r) = true := decide_eq_true hr0
      have CE : Hid (C0 = copies B ref a) := Lib.hid (by rw [← HC0.out]; exact if_pos hr0)
      have CC := Lib.hid (CP.out _ K0.out)
      have NN : Hid (copies B ref a = none → O = none) := Lib.hid (fun h => by rw [PE.out, CE.out, h]; rfl)
      clear PE FIN CP
      go_wp2_with fail
      with_reducible refine CC.out.mono ?_
      rintro e w1 ⟨v, l, a1, bd, rfl, hp, h1⟩
      have TS1 : Hid (TS (S1 O C0 n0) x d t u w rb qb s ks1 v w1) := Lib.hid ⟨l, a1, bd, ⟨hp.1, hp.2.1, fun h => NN.out (hp.2.2.1 h), fun h => by rw [CE.out]; exact hp.2.2.2 h⟩, h1⟩
      clear hp h1
      go_wp2_with fail
      go_meet
      case rel => exact TS1.out
    · have i1 : decide ((0 : Int) < (r : Int)) = false := decide_eq_false (by omega)
      have i1n : decide (0 < r) = false := decide_eq_false hr0
      have CE : Hid (C0 = some ([], a)) := Lib.hid (by rw [← HC0.out]; exact if_neg hr0)
      go_wp2_with fail
      go_meet
      case rel => exact ⟨[], a, false, ⟨Nat.zero_le _, fun v hv => (by cases hv), fun h => (by cases h), fun _ => CE.out⟩, H0.out⟩
  case rest =>
    obtain ⟨c, a1, b1, hS1, hT1⟩ := hcut
    have HS1 := Lib.hid hS1
    have HT1 := Lib.hid hT1
    obtain ⟨sv, sc, rfl⟩ := own_shape hT1.1
    obtain ⟨n, hn⟩ : ∃ n, c.length = n := ⟨_, rfl⟩
    have HN := Lib.hid hn
    have hn6 : n ≤ n0 := hn ▸ hS1.1
    rw [hn] at HT1 ⊢
    clear c0 c1 c2 c3 hS1 hT1 hn
    obtain ⟨c0, c1, c2, c3⟩ := HC.out _ _ _ _ _ HT1.out
    obtain ⟨q0, q1, qf⟩ := HT1.out.cells
    obtain ⟨L0, hL0⟩ : ∃ L, lng0 B xv deg itv = L := ⟨_, rfl⟩
    have HL0 := Lib.hid hL0
    rw [hL0] at FIN PE
    obtain ⟨Z0, hZ0⟩ : ∃ Z, (fun n a => rsd B xv zet n none a) = Z := ⟨_, rfl⟩
    have HZ0 := Lib.hid hZ0
    rw [hZ0] at FIN
    clear hL0 hZ0 CP
    rename World => w5
    obtain ⟨bb, hbb⟩ : ∃ bb, decide (n < deg ∧ 0 < itv ∧ b1 = false) = bb := ⟨_, rfl⟩
    have HBB := Lib.hid hbb
    clear hbb
    go_upto_region 5 with fail
    go_cut [38] from 25 to 37 (fun v38 wd => v38 = .bool bb ∧ wd = w5)
    case first =>
      clear FIN PE LG RS
      by_cases hd0 : n < deg
      · have i1 : decide ((0 : Int) < (deg : Int) - (n : Int)) = true := decide_eq_true (by omega)
        by_cases hi0 : 0 < itv
        · have i2 : decide ((0 : Int) < (itv : Int)) = true := decide_eq_true (by omega)
          have i2n : decide (0 < itv) = true := decide_eq_true hi0
          cases b1 with
          | true =>
            obtain rfl : bb = false := by rw [← HBB.out]; exact decide_eq_false (fun h => by cases h.2.2)
            go_wp2_with fail
            go_meet
            case rel => exact ⟨rfl, rfl⟩
          | false =>
            obtain rfl : bb = true := by rw [← HBB.out]; exact decide_eq_true ⟨hd0, hi0, rfl⟩
            go_wp2_with fail
            go_meet
            case rel => exact ⟨rfl, rfl⟩
        · have i2 : decide ((0 : Int) < (itv : Int)) = false := decide_eq_false (by omega)
          have i2n : decide (0 < itv) = false := decide_eq_false hi0
          obtain rfl : bb = false := by rw [← HBB.out]; exact decide_eq_false (fun h => hi0 h.2.1)
          go_wp2_with fail
          go_meet
          case rel => exact ⟨rfl, rfl⟩
      · have i1 : decide ((0 : Int) < (deg : Int) - (n : Int)) = false := decide_eq_false (by omega)
        obtain rfl : bb = false := by rw [← HBB.out]; exact decide_eq_false (fun h => hd0 h.1)
        go_wp2_with fail
        go_meet
        case rel => exact ⟨rfl, rfl⟩
    case rest =>
    obtain ⟨rfl, hwd⟩ := hcut
    subst hwd
    rename World => w6
    go_upto_if 38 with fail
    go_cut [11] from 12 to 46 (fun v11 wc => TS (S2 O C0 L0 deg) x d t u w rb qb s ks1 v11 wc)
    case first =>
      cases bb with
      | false =>
        have SK : Hid (TS (S2 O C0 L0 deg) x d t u w rb qb s ks1 (.slice sv n sc) w6) := Lib.hid (by
          have h := of_decide_eq_false HBB.out
          refine ⟨c, a1, b1, ⟨by rw [HN.out]; omega, HS1.out.2.1, HS1.out.2.2.1, fun hb => ⟨c, [], a1, HS1.out.2.2.2 hb, ?_, by rw [List.append_nil], fun _ => rfl, fun hd => by simpa using hd⟩⟩, HT1.out⟩
          rw [← HL0.out]
          exact if_neg (fun h2 => h ⟨HN.out ▸ h2.1, h2.2, hb⟩))
        clear FIN PE LG RS
        go_wp2_with fail
        go_meet
        case rel => exact SK.out
      | true =>
        obtain ⟨hd0, hi0, rfl⟩ := of_decide_eq_true HBB.out
        obtain ⟨m, hm⟩ : ∃ m, deg - n = m := ⟨_, rfl⟩
        have HM := Lib.hid hm
        have hmI : (deg : Int) - (n : Int) = (m : Int) := by omega
        have CC := Lib.hid (LG.out _ _ _ _ m HT1.out (by omega) (by omega))
        have LE : Hid (L0 c a1 = longs B xv m itv a1) := Lib.hid (by
          rw [← HL0.out]
          unfold lng0
          rw [if_pos ⟨by rw [HN.out]; exact hd0, hi0⟩, HN.out, HM.out])
        have NN : Hid (longs B xv m itv a1 = none → O = none) := Lib.hid (fun h => by
          rw [PE.out, HS1.out.2.2.2 (by trivial), Option.bind_some]
          dsimp only
          rw [LE.out, h]
          split <;> rfl)
        clear FIN PE LG RS hm
        go_wp2_with fail
        with_reducible refine CC.out.mono ?_
        rintro e w2 ⟨v2, l2, a2, b2, rfl, hp, hrow, h2⟩
        have HP := Lib.hid hp
        have HR := Lib.hid hrow
        have H2 := Lib.hid h2
        obtain ⟨s2, d2, rfl⟩ := own_shape hrow
        obtain ⟨n2, hn2⟩ : ∃ n, l2.length = n := ⟨_, rfl⟩
        have HN2 := Lib.hid hn2
        have hn26 : n2 ≤ m := hn2 ▸ hp.1
        rw [hn2] at HR ⊢
        have C3 : Hid (n + n2 ≤ maxLen) := Lib.hid (by simp only [maxLen]; omega)
        have C4 : Hid ((n + n2) * 4 ≤ 140737488355328) := Lib.hid (by omega)
        have OWN1 := Lib.hid (HN.out ▸ H2.out.1)
        clear hp hrow h2 hn2 CC
        go_wp2_with (at_builtin; refine wpList_append_row _ rfl _ _ 29 rfl 0 0 60 j0 _ 4 Tryd.underlying29 hj hj0 hj1 hj2 rfl _ n _ rfl OWN1.out _ n2 _ rfl HR.out (u32_one l2) C3.out C4.out (Nat.zero_le _) ?_)
        intro v' w' own' hg hw
        have TS2 : Hid (TS (S2 O C0 L0 deg) x d t u w rb qb s ks1 v' w') := Lib.hid ⟨c ++ l2, a2, b2, ⟨by rw [List.length_append, HN.out, HN2.out]; omega, fun v hv => (List.mem_append.1 hv).elim (HS1.out.2.1 v) (HP.out.2.1 v), fun h => NN.out (HP.out.2.2.1 h), fun h => ⟨c, l2, a1, HS1.out.2.2.2 (by trivial), by rw [LE.out]; exact HP.out.2.2.2 h, rfl, fun h => by rw [HN.out] at h; omega, fun h => by rw [HN.out, HN2.out]; omega⟩⟩, H2.out.add HDU.out l2 n2 HN2.out (by rw [HN.out]; exact own') hg hw⟩
        clear own' hg hw
        go_wp2_with fail
        go_meet
        case rel => exact TS2.out
    case rest =>
      obtain ⟨l, a2, b2, hS2, hT2⟩ := hcut
      have HS2 := Lib.hid hS2
      have HT2 := Lib.hid hT2
      obtain ⟨s2, d2, rfl⟩ := own_shape hT2.1
      obtain ⟨n2, hn2⟩ : ∃ n, l.length = n := ⟨_, rfl⟩
      have HN2 := Lib.hid hn2
      have hn26 : n2 ≤ 131072 := hn2 ▸ hS2.1
      rw [hn2] at HT2 ⊢
      clear c0 c1 c2 c3 q0 q1 qf hS2 hT2 hn2 HBB
      obtain ⟨c0, c1, c2, c3⟩ := HC.out _ _ _ _ _ HT2.out
      obtain ⟨q0, q1, qf⟩ := HT2.out.cells
      rename World => w7
      obtain ⟨b3, hb3⟩ : ∃ bb, decide (n2 < deg ∧ b2 = false) = bb := ⟨_, rfl⟩
      have HB3 := Lib.hid hb3
      clear hb3
      go_upto_region 8 with fail
      go_cut [60] from 52 to 59 (fun v60 wd => v60 = .bool b3 ∧ wd = w7)
      case first =>
        clear FIN PE LG RS
        by_cases hd0 : n2 < deg
        · have i1 : decide ((0 : Int) < (deg : Int) - (n2 : Int)) = true := decide_eq_true (by omega)
          cases b2 with
          | true =>
            obtain rfl : b3 = false := by rw [← HB3.out]; exact decide_eq_false (fun h => by cases h.2)
            go_wp2_with fail
            go_meet
            case rel => exact ⟨rfl, rfl⟩
          | false =>
            obtain rfl : b3 = true := by rw [← HB3.out]; exact decide_eq_true ⟨hd0, rfl⟩
            go_wp2_with fail
            go_meet
            case rel => exact ⟨rfl, rfl⟩
        · have i1 : decide ((0 : Int) < (deg : Int) - (n2 : Int)) = false := decide_eq_false (by omega)
          obtain rfl : b3 = false := by rw [← HB3.out]; exact decide_eq_false (fun h => hd0 h.1)
          go_wp2_with fail
          go_meet
          case rel => exact ⟨rfl, rfl⟩
      case rest =>
      obtain ⟨rfl, hwd⟩ := hcut
      subst hwd
      rename World => w8
      go_upto_if 60 with fail
      go_cut [11] from 12 to 70 (fun v11 wc => TS (S3 O C0 L0 Z0 deg) x d t u w rb qb s ks1 v11 wc)
      case first =>
        cases b3 with
        | false =>
          have SK : Hid (TS (S3 O C0 L0 Z0 deg) x d t u w rb qb s ks1 (.slice s2 n2 d2) w8) := Lib.hid (by
            have h := of_decide_eq_false HB3.out
            refine ⟨l, a2, b2, ⟨by rw [HN2.out]; omega, HS2.out.2.1, HS2.out.2.2.1, fun hb => ?_⟩, HT2.out⟩
            obtain ⟨c', l1, a1', e1, e2, e3, e4, e5⟩ := HS2.out.2.2.2 hb
            refine ⟨c', l1, a1', a2, [], e1, e2, by rw [List.append_nil]; exact e3, fun hd => ?_⟩
            have h6 : ¬ n2 < deg := fun h2 => h ⟨h2, hb⟩
            have h7 : c'.length + l1.length = n2 := by rw [← HN2.out, e3, List.length_append]
            rw [← HZ0.out, show deg - c'.length - l1.length = 0 by omega]
            rfl)
          clear FIN PE LG RS
          go_wp2_with fail
          go_meet
          case rel => exact SK.out
        | true =>
          obtain ⟨hd0, rfl⟩ := of_decide_eq_true HB3.out
          obtain ⟨m, hm⟩ : ∃ m, deg - n2 = m := ⟨_, rfl⟩
          have HM := Lib.hid hm
          have hmI : (deg : Int) - (n2 : Int) = (m : Int) := by omega
          have CC := Lib.hid (RS.out _ _ _ _ m HT2.out (by omega))
          have PS : Hid (∃ c l1 a1, C0 = some (c, a1) ∧ L0 c a1 = some (l1, a2) ∧ l = c ++ l1 ∧ deg - c.length - l1.length = m) := Lib.hid (by
            obtain ⟨c', l1, a1', e1, e2, e3, e4, e5⟩ := HS2.out.2.2.2 (by trivial)
            refine ⟨c', l1, a1', e1, e2, e3, ?_⟩
            have h7 : c'.length + l1.length = n2 := by rw [← HN2.out, e3, List.length_append]
            omega)
          have NN : Hid (rsd B xv zet m none a2 = none → O = none) := Lib.hid (fun h => by
            obtain ⟨c', l1, a1', e1, e2, e3, e4⟩ := PS.out
            rw [PE.out, e1, Option.bind_some]
            dsimp only
            rw [e2, Option.bind_some]
            dsimp only
            rw [e4, h]
            split <;> rfl)
          clear FIN PE LG RS hm
          go_wp2_with fail
          with_reducible refine CC.out.mono ?_
          rintro e w9 ⟨v3, l3, a3, b3, rfl, hp, hrow, h3⟩
          have HP := Lib.hid hp
          have HR := Lib.hid hrow
          have H3 := Lib.hid h3
          obtain ⟨s3, d3, rfl⟩ := own_shape hrow
          obtain ⟨n3, hn3⟩ : ∃ n, l3.length = n := ⟨_, rfl⟩
          have HN3 := Lib.hid hn3
          have hn36 : n3 ≤ m := hn3 ▸ hp.1
          rw [hn3] at HR ⊢
          have C3 : Hid (n2 + n3 ≤ maxLen) := Lib.hid (by simp only [maxLen]; omega)
          have C4 : Hid ((n2 + n3) * 4 ≤ 140737488355328) := Lib.hid (by omega)
          have OWN1 := Lib.hid (HN2.out ▸ H3.out.1)
          clear hp hrow h3 hn3 CC
          go_wp2_with (at_builtin; refine wpList_append_row _ rfl _ _ 29 rfl 0 0 60 j0 _ 4 Tryd.underlying29 hj hj0 hj1 hj2 rfl _ n2 _ rfl OWN1.out _ n3 _ rfl HR.out (u32_one l3) C3.out C4.out (Nat.zero_le _) ?_)
          intro v' w' own' hg hw
          have TS2 : Hid (TS (S3 O C0 L0 Z0 deg) x d t u w rb qb s ks1 v' w') := Lib.hid (by
            refine ⟨l ++ l3, a3, b3, ⟨by rw [List.length_append, HN2.out, HN3.out]; omega, fun v hv => (List.mem_append.1 hv).elim (HS2.out.2.1 v) (HP.out.2.1 v), fun h => NN.out (HP.out.2.2.1 h), fun h => ?_⟩, H3.out.add HDU.out l3 n3 HN3.out (by rw [HN2.out]; exact own') hg hw⟩
            obtain ⟨c', l1, a1', e1, e2, e3, e4⟩ := PS.out
            refine ⟨c', l1, a1', a2, l3, e1, e2, by rw [e3], fun _ => ?_⟩
            rw [e4, ← HZ0.out]
            exact HP.out.2.2.2 h)
          clear own' hg hw
          go_wp2_with fail
          go_meet
          case rel => exact TS2.out
      case rest =>
        obtain ⟨l, a3, b3, hS3, hT3⟩ := hcut
        have ST := Lib.hid (hT3.sort HDU.out (by have := hS3.1; omega))
        have HO := Lib.hid (FIN.out _ _ _ hS3)
        clear hS3 hT3 FIN PE LG RS c0 c1 c2 c3 q0 q1 qf
        go_wp2_with fail
        with_reducible refine ST.out.mono ?_
        rintro e w9 ⟨rfl, h9⟩
        have H9 := Lib.hid h9
        clear h9
        go_wp2_with fail
        go_ret
        exact ListE.sub ⟨_, _, _, _, rfl, HO.out, H9.out⟩ HS.out
end Go.Proofs.YtflnpcgnenhogaaDoor.ls

namespace Go.Proofs.YtflnpcgnenhogaaDoor.ls
open Go.RowKit Go.Proofs.YtflnpcgnenhogaaDoor.own Go.Proofs.YtflnpcgnenhogaaDoor.bit

theorem lay_parts (x : Nat) (succ ref : List Nat) (r : Nat) (p : Pr) : lay x succ ref r p = bitsOf (hdN succ r p) ++ bitsOf (tlN x succ ref r p) := by
  unfold lay nums
  rw [bitsOf_append]
/-- a lay's head is read -/
theorem hread_lay {B R : Bits} {a x : Nat} {succ ref : List Nat} {r : Nat} {p : Pr} (hm : MayN x succ ref r p) (h : B.drop a = lay x succ ref r p ++ R) :
    hread p.win B a = some (succ.length, (if succ = [] then 0 else r), a + (bitsOf (hdN succ r p)).length) ∧ B.drop (a + (bitsOf (hdN succ r p)).length) = bitsOf (tlN x succ ref r p) ++ R := by
  obtain ⟨⟨hp1, _, _⟩, _, hsu, _, hr1, _⟩ := hm
  have hl := hsu.len
  rw [lay_parts, List.append_assoc] at h
  have key : B.drop (a + (bitsOf (hdN succ r p)).length) = bitsOf (tlN x succ ref r p) ++ R := by rw [← List.drop_drop, h, List.drop_left]
  refine ⟨?_, key⟩
  by_cases hs : succ = []
  · have e : bitsOf (hdN succ r p) = cb .gam 0 := by
      unfold hdN
      rw [if_pos hs, hs]
      show cb .gam 0 ++ [] = _
      rw [List.append_nil]
    rw [e] at h
    unfold hread
    rw [h, rd_cb .gam trivial 0 (by decide), Option.bind_some, if_neg (by simp), if_pos (by simp), e, hs]
    rfl
  · have h0 : 0 < succ.length := List.length_pos_iff.2 hs
    by_cases hw : 0 < p.win
    · have e : bitsOf (hdN succ r p) = cb .gam succ.length ++ cb .una r := by
        unfold hdN
        rw [if_neg hs, if_pos hw]
        show cb .gam _ ++ (cb .una r ++ []) = _
        rw [List.append_nil]
      rw [e, List.append_assoc] at h
      unfold hread
      rw [h, rd_cb .gam trivial succ.length (show succ.length ≤ 281474976710654 by omega), Option.bind_some, if_pos ⟨h0, hw⟩]
      dsimp only
      rw [← List.drop_drop, h, List.drop_left, rd_cb .una trivial r (show r ≤ 65535 by omega), Option.bind_some, if_pos ⟨hl, hr1⟩, if_neg hs, e, List.length_append, Nat.add_assoc]
    · have e : bitsOf (hdN succ r p) = cb .gam succ.length := by
        unfold hdN
        rw [if_neg hs, if_neg hw]
        show cb .gam _ ++ [] = _
        rw [List.append_nil]
      rw [e] at h
      unfold hread
      rw [h, rd_cb .gam trivial succ.length (show succ.length ≤ 281474976710654 by omega), Option.bind_some, if_neg (fun h => hw h.2), if_pos hl, if_neg hs, e, show r = 0 by omega]
theorem hd_len {x : Nat} {succ ref : List Nat} {r : Nat} {p : Pr} : (lay x succ ref r p).length = (bitsOf (hdN succ r p)).length + (bitsOf (tlN x succ ref r p)).length := by
  rw [lay_parts, List.length_append]
end Go.Proofs.YtflnpcgnenhogaaDoor.ls

namespace Go.Proofs.YtflnpcgnenhogaaDoor.ls
open Go.RowKit Go.Proofs.YtflnpcgnenhogaaDoor.own Go.Proofs.YtflnpcgnenhogaaDoor.bit

/-- there is a colour beyond all -/
theorem fresh (x : Nat → Nat) (d : Nat) : ∀ n : Nat, ∃ m, d < m ∧ ∀ b, b < n → x b < m
  | 0 => ⟨d + 1, Nat.lt_succ_self _, fun b h => (by omega)⟩
  | n + 1 => by
    obtain ⟨m, h1, h2⟩ := fresh x d n
    refine ⟨m + x n + 1, by omega, fun b hb => ?_⟩
    rcases Nat.lt_or_ge b n with h | h
    · have := h2 b h; omega
    · obtain rfl : b = n := by omega
      omega
/-- colours that are never turned on the way -/
def Rk (y : Nat → Nat) (d m b : Nat) : Prop := (y b < m ∧ y b ≠ d) ∨ y b = m + 4
def GS (x : Nat → Nat) (d m : Nat) (w : World) (rb : Nat) (s : ByteArray) (a : Nat) (wr : Option (Nat × Bits)) (rd : Option (Nat × ByteArray × Nat)) (ks : List (Nat × Obj)) (W : World) : Prop :=
  ∃ y, Fr x y (fun c => c = d ∨ m ≤ c) w W ∧ RdC y d W rb s a ∧ (∀ q, wr = some q → WrC y m W q.1 q.2) ∧ (∀ q, rd = some q → RdC y (m + 1) W q.1 q.2.1 q.2.2) ∧ ∀ p ∈ ks, Rk y d m p.1 ∧ W.heap[p.1]? = some p.2
section
variable {x : Nat → Nat} {d m : Nat} {w W : World} {rb a : Nat} {s : ByteArray} {wr : Option (Nat × Bits)} {rd : Option (Nat × ByteArray × Nat)} {ks : List (Nat × Obj)}
theorem GS.le (h : GS x d m w rb s a wr rd ks W) : a ≤ 8 * s.size := by
  obtain ⟨_, _, hr, _⟩ := h
  exact hr.2.2.1
theorem GS.row (h : GS x d m w rb s a wr rd ks W) {b : Nat} {o : Obj} (hm : (b, o) ∈ ks) : W.heap[b]? = some o := by
  obtain ⟨_, _, _, _, _, hk⟩ := h
  exact (hk _ hm).2
theorem rk_frame {y y' : Nat → Nat} {C : Nat → Prop} {W W' : World} (h : ∀ p ∈ ks, Rk y d m p.1 ∧ W.heap[p.1]? = some p.2) (f : Fr y y' C W W') (hC : ∀ c, C c → c = d ∨ c = m ∨ c = m + 1 ∨ c = m + 2 ∨ c = m + 3) (hdm : d < m) : ∀ p ∈ ks, Rk y' d m p.1 ∧ W'.heap[p.1]? = some p.2 := fun p hp => by
  obtain ⟨h1, h2⟩ := h p hp
  have e := f.col _ (lt_of_block h2)
  refine ⟨?_, (f.old _ (lt_of_block h2) (fun hc => ?_)).trans h2⟩
  · unfold Rk at h1 ⊢
    rw [e]
    exact h1
  · have := hC _ hc
    unfold Rk at h1
    omega
theorem GS.next (hdm : d < m) (h : GS x d m w rb s a wr rd ks W) {W' : World} (k : Below W.heap.size W W') : GS x d m w rb s a wr rd ks W' := by
  obtain ⟨y, hf, hr, hw, hr2, hk⟩ := h
  have f2 : Fr y (paint y W.heap.size (m + 2)) (fun e => e = m + 2) W W' := Fr.of_below k rfl
  exact ⟨_, hf.trans (f2.mono (fun c hc => by omega)), rdc_frame hr f2 (by omega), fun q e => (hw q e).frame f2 (by omega), fun q e => rdc_frame (hr2 q e) f2 (by omega), rk_frame hk f2 (fun c hc => by omega) hdm⟩
theorem GS.add (hdm : d < m) (h : GS x d m w rb s a wr rd ks W) (row : Array Value) (T : TypeId) : GS x d m w rb s a wr rd ((W.heap.size, .cells row T (0, 0)) :: ks) (W.alloc (.cells row T)) := by
  obtain ⟨y, hf, hr, hw, hr2, hk⟩ := h
  have k : Below W.heap.size W (W.alloc (.cells row T)) := (Below.refl _ _).alloc (Nat.le_refl _) _
  have f2 : Fr y (paint y W.heap.size (m + 4)) (fun e => e = m + 4) W (W.alloc (.cells row T)) := Fr.of_below k rfl
  refine ⟨_, hf.trans (f2.mono (fun c hc => by omega)), rdc_frame hr f2 (by omega), fun q e => (hw q e).frame f2 (by omega), fun q e => rdc_frame (hr2 q e) f2 (by omega), fun p hp => ?_⟩
  rcases List.mem_cons.1 hp with rfl | hp
  · exact ⟨.inr (paint_new (Nat.le_refl _)), heap_alloc_new W _⟩
  · obtain ⟨h1, h2⟩ := hk p hp
    have e : paint y W.heap.size (m + 4) p.1 = y p.1 := paint_old (lt_of_block h2)
    refine ⟨?_, (k.block _ (lt_of_block h2)).trans h2⟩
    unfold Rk at h1 ⊢
    rw [e]
    exact h1
theorem GS.gl (h : GS x d m w rb s a wr rd ks W) (hG : GL w) (h0 : x 0 ≠ d ∧ x 1 ≠ d) (hm : ∀ b, b < w.heap.size → x b < m) : GL W := by
  obtain ⟨y, hf, _⟩ := h
  have l0 := World.block_lt_of_cell? _ _ hG.g0
  have l1 := World.block_lt_of_cell? _ _ hG.u0
  have k0 := hf.old 0 l0 (by rintro (e | e); exact h0.1 e; have := hm 0 l0; omega)
  have k1 := hf.old 1 l1 (by rintro (e | e); exact h0.2 e; have := hm 1 l1; omega)
  exact ⟨(World.cell?_of_block (w := w) k0).trans hG.g0, (World.cell?_of_block (w := w) k0).trans hG.g1, (World.cell?_of_block (w := w) k1).trans hG.u0, (World.cell?_of_block (w := w) k1).trans hG.u1⟩
theorem GS.lv (h : GS x d m w rb s a wr rd ks W) (hm : ∀ b, b < w.heap.size → x b < m) {al : Option Addr} {l : List Nat} (hL : LV w al l) (hc : ∀ g o, al = some ⟨g, o, none⟩ → 0 < l.length → x g ≠ d) : LV W al l := by
  obtain ⟨y, hf, _⟩ := h
  rcases Nat.eq_zero_or_pos l.length with h0 | h0
  · obtain rfl := List.eq_nil_of_length_eq_zero h0
    exact LV.nil
  · obtain ⟨g, o, e, hlt, _⟩ := hL.2 0 h0
    refine hL.fr hf (fun g' o' e' => ?_)
    rw [e] at e'
    injection e' with e'
    injection e' with e1 e2
    subst e1
    rintro (e3 | e3)
    · exact hc g o e h0 e3
    · have := hm g hlt; omega
theorem GS.at_ (h : GS x d m w rb s a wr rd ks W) : Calls Tryd.prog 24 #[.pointer (some ⟨rb, 0, none⟩)] W fun e w' => e = .returned (.int .i64 (a : Int)) ∧ W = w' := by
  obtain ⟨y, _, hr, _⟩ := h
  exact At_any y d W rb s a hr
theorem GS.oat {ob oa : Nat} {os : ByteArray} (h : GS x d m w rb s a wr (some (ob, os, oa)) ks W) : Calls Tryd.prog 24 #[.pointer (some ⟨ob, 0, none⟩)] W fun e w' => e = .returned (.int .i64 (oa : Int)) ∧ W = w' := by
  obtain ⟨y, _, _, _, hr, _⟩ := h
  exact At_any y (m + 1) W ob os oa (hr _ rfl)
theorem GS.len {wb : Nat} {l : Bits} (h : GS x d m w rb s a (some (wb, l)) rd ks W) : Calls Tryd.prog 19 #[.pointer (some ⟨wb, 0, none⟩)] W fun e w' => e = .returned (.int .i64 (l.length : Int)) ∧ W = w' := by
  obtain ⟨y, _, _, hw, _⟩ := h
  exact len_any y m W wb l (hw _ rfl)
theorem GS.text {wb : Nat} {l : Bits} (h : GS x d m w rb s a (some (wb, l)) rd ks W) : Calls Tryd.prog 13 #[.pointer (some ⟨wb, 0, none⟩)] W fun e w' => e = .returned (.tuple #[.string (txt (packN l)), .int .i64 0]) ∧ W = w' := by
  obtain ⟨y, _, _, hw, _⟩ := h
  exact text_any y m W wb l (hw _ rfl)
theorem GS.new (hdm : d < m) (h : GS x d m w rb s a none none ks W) :
    Calls Tryd.prog 7 #[] W fun e w' => ∃ wb : Nat, e = .returned (.pointer (some ⟨wb, 0, none⟩)) ∧ GS x d m w rb s a (some (wb, [])) none ks w' := by
  obtain ⟨y, hf, hr, -, -, hk⟩ := h
  refine (new_any y m W).mono ?_
  rintro e w' ⟨wb, y', rfl, f2, hw, _⟩
  exact ⟨wb, rfl, y', hf.trans (f2.mono (fun c hc => by omega)), rdc_frame hr f2 (by omega), fun q e => by cases e; exact hw, fun q e => (by cases e), rk_frame hk f2 (fun c hc => by omega) hdm⟩
theorem GS.enc (hdm : d < m) {wb : Nat} (h : GS x d m w rb s a (some (wb, [])) none ks W) (hG : GL W) (p : Pr) (xv : Nat) (al : Option Addr) (succ : List Nat) (cap : Nat) (bl : Option Addr) (ref : List Nat) (capb r : Nat) (hc : succ.length ≤ cap) (hcb : ref.length ≤ capb) (hm : MayN xv succ ref r p) (hA : LV W al succ) (hB : LV W bl ref) :
    Calls Tryd.prog 11 #[.pointer (some ⟨wb, 0, none⟩), .int .i64 (xv : Int), .slice al succ.length cap, .slice bl ref.length capb, .int .i64 (r : Int), parV (p.win : Int) (p.itv : Int) (p.zet : Int)] W fun e w' =>
      e = .returned (.int .i64 0) ∧ GS x d m w rb s a (some (wb, lay xv succ ref r p)) none ks w' := by
  obtain ⟨y, hf, hr, hw, -, hk⟩ := h
  have hl := lay_len hm
  refine (lenc_yes y m (m + 2) (m + 3) (by omega) (by omega) (by omega) p xv W hG wb [] al succ cap bl ref capb r hc hcb hm hA hB (by simp only [List.length_nil]; omega) (hw _ rfl)).mono ?_
  rintro e w' ⟨rfl, y', f2, hw2⟩
  exact ⟨rfl, y', hf.trans (f2.mono (fun c hc => by omega)), rdc_frame hr f2 (by omega), fun q e => by cases e; exact hw2, fun q e => (by cases e), rk_frame hk f2 (fun c hc => by omega) hdm⟩
theorem GS.open (hdm : d < m) (h : GS x d m w rb s a wr none ks W) (t : ByteArray) (ht : t.size ≤ 1152921504606846975) :
    Calls Tryd.prog 20 #[.string t] W fun e w' => ∃ ob : Nat, e = .returned (.pointer (some ⟨ob, 0, none⟩)) ∧ GS x d m w rb s a wr (some (ob, t, 0)) ks w' := by
  obtain ⟨y, hf, hr, hw, -, hk⟩ := h
  refine (ropen_any y (m + 1) t ht W).mono ?_
  rintro e w' ⟨ob, y', rfl, f2, hr2, _⟩
  exact ⟨ob, rfl, y', hf.trans (f2.mono (fun c hc => by omega)), rdc_frame hr f2 (by omega), fun q e => (hw q e).frame f2 (by omega), fun q e => by cases e; exact hr2, rk_frame hk f2 (fun c hc => by omega) hdm⟩
theorem GS.head (hdm : d < m) {ob oa : Nat} {os : ByteArray} (h : GS x d m w rb s a wr (some (ob, os, oa)) ks W) (hG : GL w) (h0 : x 0 ≠ d ∧ x 1 ≠ d) (hm : ∀ b, b < w.heap.size → x b < m) (p : Pr) (hp : p.ok) :
    Calls Tryd.prog 21 #[.pointer (some ⟨ob, 0, none⟩), parV (p.win : Int) (p.itv : Int) (p.zet : Int)] W fun e w' =>
      e = .returned (hrV (hread p.win (unpack (nats os)) oa)) ∧ GS x d m w rb s a wr (some (ob, os, hrA oa (hread p.win (unpack (nats os)) oa))) ks w' := by
  have hGW := h.gl hG h0 hm
  obtain ⟨y, hf, hr, hw, hr2, hk⟩ := h
  have l0 := World.block_lt_of_cell? _ _ hG.g0
  have l1 := World.block_lt_of_cell? _ _ hG.u0
  have e0 : y 0 < m := by rw [hf.col 0 l0]; exact hm 0 l0
  have e1 : y 1 < m := by rw [hf.col 1 l1]; exact hm 1 l1
  refine (head_any y (m + 1) (m + 2) (m + 3) (by omega) (by omega) (by omega) p hp W hGW (by omega) ob os oa (hr2 _ rfl)).mono ?_
  rintro e w' ⟨rfl, y', f2, hr3⟩
  exact ⟨rfl, y', hf.trans (f2.mono (fun c hc => by omega)), rdc_frame hr f2 (by omega), fun q e => (hw q e).frame f2 (by omega), fun q e => by cases e; exact hr3, rk_frame hk f2 (fun c hc => by omega) hdm⟩
theorem GS.seek (hdm : d < m) (h : GS x d m w rb s a wr rd ks W) (a0 : Nat) (ha : a0 ≤ 8 * s.size) :
    Calls Tryd.prog 40 #[.pointer (some ⟨rb, 0, none⟩), .int .i64 (a0 : Int)] W fun e w' => e = .returned (.int .i64 0) ∧ GS x d m w rb s a0 wr rd ks w' := by
  obtain ⟨y, hf, hr, hw, hr2, hk⟩ := h
  refine (Seek_any y d s a a0 rb W hr ha).mono ?_
  rintro e w' ⟨rfl, f2, h2⟩
  exact ⟨rfl, y, hf.trans (f2.mono (fun c hc => by omega)), h2, fun q e => (hw q e).frame f2 (by omega), fun q e => rdc_frame (hr2 q e) f2 (by omega), rk_frame hk f2 (fun c hc => by omega) hdm⟩
theorem GS.take (hdm : d < m) (h : GS x d m w rb s a wr rd ks W) (n : Nat) (hn : n ≤ 64) (ha : a + n ≤ 8 * s.size) :
    Calls Tryd.prog 77 #[.pointer (some ⟨rb, 0, none⟩), .int .i64 (n : Int)] W fun e w' =>
      e = .returned (.tuple #[.int .u64 ((num (((unpack (nats s)).drop a).take n) : Nat) : Int), .int .i64 0]) ∧ GS x d m w rb s (a + n) wr rd ks w' := by
  obtain ⟨y, hf, hr, hw, hr2, hk⟩ := h
  refine (Take_any y d W rb s a n hn ha hr).mono ?_
  rintro e w' ⟨rfl, y', f2, h2⟩
  exact ⟨rfl, y', hf.trans (f2.mono (fun c hc => by omega)), h2, fun q e => (hw q e).frame f2 (by omega), fun q e => rdc_frame (hr2 q e) f2 (by omega), rk_frame hk f2 (fun c hc => by omega) hdm⟩
theorem GS.otake (hdm : d < m) {ob oa : Nat} {os : ByteArray} (h : GS x d m w rb s a wr (some (ob, os, oa)) ks W) (n : Nat) (hn : n ≤ 64) (ha : oa + n ≤ 8 * os.size) :
    Calls Tryd.prog 77 #[.pointer (some ⟨ob, 0, none⟩), .int .i64 (n : Int)] W fun e w' =>
      e = .returned (.tuple #[.int .u64 ((num (((unpack (nats os)).drop oa).take n) : Nat) : Int), .int .i64 0]) ∧ GS x d m w rb s a wr (some (ob, os, oa + n)) ks w' := by
  obtain ⟨y, hf, hr, hw, hr2, hk⟩ := h
  refine (Take_any y (m + 1) W ob os oa n hn ha (hr2 _ rfl)).mono ?_
  rintro e w' ⟨rfl, y', f2, h2⟩
  exact ⟨rfl, y', hf.trans (f2.mono (fun c hc => by omega)), rdc_frame hr f2 (by omega), fun q e => (hw q e).frame f2 (by omega), fun q e => by cases e; exact h2, rk_frame hk f2 (fun c hc => by omega) hdm⟩
theorem GS.start (hr : RdC x d w rb s a) : GS x d m w rb s a none none [] w := ⟨x, Fr.refl _ _ _, hr, fun q e => (by cases e), fun q e => (by cases e), fun p hp => (by cases hp)⟩
/-- at the end: new blocks bear the reader's colour -/
theorem GS.stop (h : GS x d m w rb s a wr rd ks W) (hm : ∀ b, b < w.heap.size → x b < m) (hrb : rb < w.heap.size) : ∃ x', Fr x x' (fun c => c = d) w W ∧ RdC x' d W rb s a := by
  obtain ⟨y, hf, ⟨h1, h2, h3⟩, _⟩ := h
  refine ⟨paint x w.heap.size d, ⟨hf.os, hf.tape, hf.output, hf.size, fun b hb => paint_old hb, fun b hb _ => paint_new hb, fun b hb hc => hf.old b hb ?_⟩, h1, ?_, h3⟩
  · rintro (e | e)
    · exact hc e
    · have := hm b hb; omega
  · rw [paint_old hrb, ← hf.col rb hrb]; exact h2
end
theorem num_inj {a b : Bits} (hl : a.length = b.length) (h : num a = num b) : a = b := by
  rw [← ofN_num a, ← ofN_num b, hl, h]
end Go.Proofs.YtflnpcgnenhogaaDoor.ls

namespace Go.Proofs.YtflnpcgnenhogaaDoor.ls
open Go.RowKit Go.Proofs.YtflnpcgnenhogaaDoor.own Go.Proofs.YtflnpcgnenhogaaDoor.bit

/-- where a reader is -/
def atOf (rb : Nat) (W : World) : Nat := match W.cell? ⟨rb, 1, none⟩ with
  | some (.int _ z) => z.toNat
  | _ => 0
theorem RdC.atOf {y : Nat → Nat} {d : Nat} {W : World} {rb a : Nat} {s : ByteArray} (h : RdC y d W rb s a) : atOf rb W = a := by
  have c : W.cell? ⟨rb, 1, none⟩ = some (.int .i64 (a : Int)) := by rw [cell_of_row _ _ _ _ _ _ h.1]; rfl
  unfold ls.atOf
  rw [c]
  exact Int.toNat_natCast a
theorem GS.atOf {x : Nat → Nat} {d m : Nat} {w W : World} {rb a : Nat} {s : ByteArray} {wr : Option (Nat × Bits)} {rd : Option (Nat × ByteArray × Nat)} {ks : List (Nat × Obj)} (h : GS x d m w rb s a wr rd ks W) : atOf rb W = a := by
  obtain ⟨y, _, hr, _⟩ := h
  exact RdC.atOf hr
/-- bits that agree so far, and further -/
theorem agree_step {A C : Bits} {k n : Nat} (h : A.take k = C.take k) (hA : k + n ≤ A.length) (hC : k + n ≤ C.length) : (num ((A.drop k).take n) = num ((C.drop k).take n) → A.take (k + n) = C.take (k + n)) ∧ (A.take (k + n) = C.take (k + n) → num ((A.drop k).take n) = num ((C.drop k).take n)) := by
  constructor
  · intro e
    have e2 : (A.drop k).take n = (C.drop k).take n := num_inj (by rw [List.length_take, List.length_take, List.length_drop, List.length_drop]; omega) e
    rw [List.take_add, List.take_add, h, e2]
  · intro e
    rw [List.take_add, List.take_add] at e
    have := List.append_inj e (by rw [List.length_take, List.length_take]; omega)
    rw [this.2]
set_option maxRecDepth 100000 in
set_option maxHeartbeats 6400000 in
theorem anew_any (x : Nat → Nat) (d : Nat) (w : World) (hG : GL w) (hg0 : x 0 ≠ d ∧ x 1 ≠ d) (rb : Nat) (s : ByteArray) (at_ e : Nat) (hr : RdC x d w rb s e) (hat : at_ ≤ e)
    (xv deg r : Nat) (p : Pr) (al : Option Addr) (l : List Nat) (cap : Nat) (hcap : l.length ≤ cap) (hL : LV w al l) (hLc : ∀ g o, al = some ⟨g, o, none⟩ → 0 < l.length → x g ≠ d)
    (bl : Option Addr) (ref : List Nat) (capb : Nat) (hcapb : ref.length ≤ capb) (hR : LV w bl ref) (hRc : ∀ g o, bl = some ⟨g, o, none⟩ → 0 < ref.length → x g ≠ d) (hm : MayN xv l ref r p) :
    Calls Tryd.prog 44 #[parV (p.win : Int) (p.itv : Int) (p.zet : Int), .pointer (some ⟨rb, 0, none⟩), .int .i64 (at_ : Int), .int .i64 (xv : Int), .agg #[.int .i64 (deg : Int), .int .i64 (r : Int)], .slice al l.length cap, .slice bl ref.length capb] w fun en w' =>
      en = .returned (.bool (decide (bitsOf (tlN xv l ref r p) = ((unpack (nats s)).drop at_).take (e - at_)))) ∧ ∃ x', Fr x x' (fun c => c = d) w w' ∧ RdC x' d w' rb s e := by
  obtain ⟨m, hdm, hfr⟩ := fresh x d w.heap.size
  have hrb := lt_of_block hr.1
  have he8 : e ≤ 8 * s.size := hr.2.2.1
  have hs8 : s.size ≤ 1152921504606846975 := hr.2.2.2
  have DM := Lib.hid hdm
  have STOP := Lib.hid (fun W a wr rd ks (h : GS x d m w rb s a wr rd ks W) => h.stop hfr hrb)
  have GLs := Lib.hid (fun W a wr rd ks (h : GS x d m w rb s a wr rd ks W) => h.gl hG hg0 hfr)
  have LVl := Lib.hid (fun W a wr rd ks (h : GS x d m w rb s a wr rd ks W) => h.lv hfr hL hLc)
  have LVr := Lib.hid (fun W a wr rd ks (h : GS x d m w rb s a wr rd ks W) => h.lv hfr hR hRc)
  obtain ⟨LB, hLB⟩ : ∃ L, lay xv l ref r p = L := ⟨_, rfl⟩
  obtain ⟨TL, hTL⟩ : ∃ L, bitsOf (tlN xv l ref r p) = L := ⟨_, rfl⟩
  obtain ⟨ha, hha⟩ : ∃ n, (bitsOf (hdN l r p)).length = n := ⟨_, rfl⟩
  have ENC := Lib.hid (fun W (wb a : Nat) ks (h : GS x d m w rb s a (some (wb, [])) none ks W) => hLB ▸ h.enc hdm (h.gl hG hg0 hfr) p xv al l cap bl ref capb r hcap hcapb hm (h.lv hfr hL hLc) (h.lv hfr hR hRc))
  have HLN : Hid (LB.length = ha + TL.length) := Lib.hid (by rw [← hLB, hd_len, hha, hTL])
  have LL := lay_len hm
  rw [hLB] at LL
  obtain ⟨R', hR'⟩ := text_back LB
  have HR : Hid (hread p.win (unpack (nats (txt (packN LB)))) 0 = some (l.length, (if l = [] then 0 else r), ha) ∧ (unpack (nats (txt (packN LB)))).drop ha = TL ++ R') := Lib.hid (by
    have h := hread_lay (B := unpack (nats (txt (packN LB)))) (R := R') (a := 0) hm (by rw [List.drop_zero, hR', hLB])
    rw [hha, hTL, Nat.zero_add] at h
    exact h)
  have HD := Lib.hid (fun W wr (ob a : Nat) ks (h : GS x d m w rb s a wr (some (ob, txt (packN LB), 0)) ks W) => h.head hdm hG hg0 hfr p hm.1)
  have HTS : Hid ((txt (packN LB)).size ≤ 1152921504606846975) := Lib.hid (by rw [txt_size, packN_length]; omega)
  have HOL : Hid (ha + TL.length ≤ 8 * (txt (packN LB)).size) := Lib.hid (by rw [← HLN.out, txt_size, packN_length]; omega)
  rw [HR.out.1] at HD
  obtain ⟨rr, hrr⟩ : ∃ q, (if l = [] then 0 else r) = q := ⟨_, rfl⟩
  rw [hrr] at HD
  obtain ⟨ll, hll⟩ : ∃ q, l.length = q := ⟨_, rfl⟩
  rw [hll] at HD ENC hcap ⊢
  obtain ⟨lr, hlr⟩ : ∃ q, ref.length = q := ⟨_, rfl⟩
  rw [hlr] at ENC hcapb ⊢
  obtain ⟨B, hB⟩ : ∃ B, unpack (nats s) = B := ⟨_, rfl⟩
  have HB := Lib.hid hB
  obtain ⟨res, hres⟩ : ∃ b, decide (TL = (B.drop at_).take (e - at_)) = b := ⟨_, rfl⟩
  have HRES := Lib.hid hres
  have H0 := Lib.hid (GS.start (m := m) hr)
  rw [hTL, hB, hres]
  unfold hrV hrA at HD
  dsimp only at HD
  obtain ⟨win, itv, zet⟩ := p
  dsimp only at HD ENC ⊢
  unfold parV at HD ENC ⊢
  clear hG hg0 hr hL hLc hR hRc hm hfr hLB hTL hha hR' hrr hll hlr hB hres hdm
  go_enter Tryd.func44, Tryd.ntmps44
  go_upto_region 1 with fail
  have f1 := (H0.out.add DM.out #[.int .i64 (win : Int), .int .i64 (itv : Int), .int .i64 (zet : Int)] 38).add DM.out #[.int .i64 (deg : Int), .int .i64 (r : Int)] 55
  obtain ⟨sz, hsz⟩ : ∃ z, w.heap.size = z := ⟨_, rfl⟩
  have hsz2 : (w.alloc (.cells #[.int .i64 (win : Int), .int .i64 (itv : Int), .int .i64 (zet : Int)] 38)).heap.size = sz + 1 := by simp [hsz]
  rw [hsz2, hsz] at f1
  rw [hsz]
  obtain ⟨ks, hks⟩ : ∃ k, (sz + 1, Obj.cells #[.int .i64 (deg : Int), .int .i64 (r : Int)] 55 (0, 0)) :: (sz, Obj.cells #[.int .i64 (win : Int), .int .i64 (itv : Int), .int .i64 (zet : Int)] 38 (0, 0)) :: [] = k := ⟨_, rfl⟩
  have M1 : Hid ((sz + 1, Obj.cells #[.int .i64 (deg : Int), .int .i64 (r : Int)] 55 (0, 0)) ∈ ks) := Lib.hid (by rw [← hks]; exact List.mem_cons_self ..)
  have M2 : Hid ((sz, Obj.cells #[.int .i64 (win : Int), .int .i64 (itv : Int), .int .i64 (zet : Int)] 38 (0, 0)) ∈ ks) := Lib.hid (by rw [← hks]; exact List.mem_cons_of_mem _ (List.mem_cons_self ..))
  rw [hks] at f1
  generalize World.alloc (World.alloc w _) _ = W1 at f1 ⊢
  have F1 := Lib.hid f1
  clear f1 hsz hsz2 hks H0
  go_wp2_with fail
  with_reducible refine F1.out.at_.mono ?_
  rintro en w2 ⟨rfl, rfl⟩
  have NW := Lib.hid (F1.out.new DM.out)
  go_wp2_with fail
  with_reducible refine NW.out.mono ?_
  rintro en w2 ⟨wb, rfl, h2⟩
  have F2 := Lib.hid h2
  have r1 := F2.out.row M1.out
  have r2 := F2.out.row M2.out
  have c0 : w2.cell? ⟨sz + 1, 1, none⟩ = some (.int .i64 (r : Int)) := by rw [cell_of_row _ _ _ _ _ _ r1]; rfl
  have c1 : w2.cell? ⟨sz, 0, none⟩ = some (.int .i64 (win : Int)) := by rw [cell_of_row _ _ _ _ _ _ r2]; rfl
  have c2 : w2.cell? ⟨sz, 1, none⟩ = some (.int .i64 (itv : Int)) := by rw [cell_of_row _ _ _ _ _ _ r2]; rfl
  have c3 : w2.cell? ⟨sz, 2, none⟩ = some (.int .i64 (zet : Int)) := by rw [cell_of_row _ _ _ _ _ _ r2]; rfl
  have EN := Lib.hid (ENC.out _ _ _ _ h2)
  clear r1 r2 h2 NW F1 ENC
  go_wp2_with fail
  with_reducible refine EN.out.mono ?_
  rintro en w3 ⟨rfl, h3⟩
  have F3 := Lib.hid h3
  clear c0 c1 c2 c3 h3 EN F2
  go_wp2_with fail
  with_reducible refine F3.out.text.mono ?_
  rintro en w4 ⟨rfl, rfl⟩
  have OP := Lib.hid (F3.out.open DM.out _ HTS.out)
  go_wp2_with fail
  with_reducible refine OP.out.mono ?_
  rintro en w4 ⟨ob, rfl, h4⟩
  have F4 := Lib.hid h4
  have r2 := F4.out.row M2.out
  have c1 : w4.cell? ⟨sz, 0, none⟩ = some (.int .i64 (win : Int)) := by rw [cell_of_row _ _ _ _ _ _ r2]; rfl
  have c2 : w4.cell? ⟨sz, 1, none⟩ = some (.int .i64 (itv : Int)) := by rw [cell_of_row _ _ _ _ _ _ r2]; rfl
  have c3 : w4.cell? ⟨sz, 2, none⟩ = some (.int .i64 (zet : Int)) := by rw [cell_of_row _ _ _ _ _ _ r2]; rfl
  have HE := Lib.hid (HD.out _ _ _ _ _ h4)
  clear r2 h4 OP F3 HD
  go_wp2_with fail
  with_reducible refine HE.out.mono ?_
  rintro en w5 ⟨rfl, h5⟩
  have F5 := Lib.hid h5
  clear c1 c2 c3 h5 HE F4
  go_upto_region 8 with fail
  have f6 := F5.out.next DM.out ((Below.refl _ _).alloc (Nat.le_refl _) (.cells #[.int .i64 (ll : Int), .int .i64 (rr : Int)] 55))
  generalize World.alloc w5 _ = w6 at f6 ⊢
  obtain ⟨z5, hz5⟩ : ∃ z, w5.heap.size = z := ⟨_, rfl⟩
  rw [hz5]
  obtain ⟨lb, hlb⟩ : ∃ k, LB.length = k := ⟨_, rfl⟩
  obtain ⟨tl, htl⟩ : ∃ k, TL.length = k := ⟨_, rfl⟩
  obtain ⟨L, hL⟩ : ∃ k, e - at_ = k := ⟨_, rfl⟩
  have lbI : (lb : Int) - (ha : Int) = (tl : Int) := by have := HLN.out; omega
  have eI : (e : Int) - (at_ : Int) = (L : Int) := by omega
  have LEN := Lib.hid (hlb ▸ f6.len)
  have OAT := Lib.hid f6.oat
  have F6 := Lib.hid f6
  have HTL := Lib.hid htl
  have HL := Lib.hid hL
  have B8 : Hid (B.length = 8 * s.size) := Lib.hid (by rw [← HB.out, bits_len])
  have lb9 : lb ≤ 5243040 := by omega
  have tl9 : tl ≤ lb := by have := HLN.out; omega
  have ha9 : ha ≤ lb := by have := HLN.out; omega
  clear f6 F5 hz5 hlb htl hL
  by_cases hq : tl = L
  case neg =>
    have hres : res = false := by
      rw [← HRES.out]
      refine decide_eq_false (fun h => hq ?_)
      have := congrArg List.length h
      rw [List.length_take, List.length_drop, HTL.out, B8.out, HL.out] at this
      omega
    subst hres
    have i1 : ((tl : Int) != (L : Int)) = true := by simp; omega
    have OUT := Lib.hid (STOP.out _ _ _ _ _ F6.out)
    clear hq
    go_wp2_with fail
    with_reducible refine LEN.out.mono ?_
    rintro en w7 ⟨rfl, rfl⟩
    go_wp2_with fail
    with_reducible refine OAT.out.mono ?_
    rintro en w7 ⟨rfl, rfl⟩
    go_wp2_with fail
    go_ret
    exact ⟨rfl, OUT.out⟩
  case pos =>
    subst hq
    have i1 : ((tl : Int) != (tl : Int)) = false := by simp
    have SK := Lib.hid (F6.out.seek DM.out at_ (by omega))
    go_wp2_with fail
    with_reducible refine LEN.out.mono ?_
    rintro en w7 ⟨rfl, rfl⟩
    go_wp2_with fail
    with_reducible refine OAT.out.mono ?_
    rintro en w7 ⟨rfl, rfl⟩
    go_wp2_with fail
    with_reducible refine SK.out.mono ?_
    rintro en w7 ⟨rfl, h7⟩
    have F7 := Lib.hid h7
    clear h7 SK LEN OAT F6 i1
    go_wp2_with fail
    go_loopw [22] (fun _ wr => ∃ k : Nat, k ≤ tl ∧ (B.drop at_).take k = TL.take k ∧ GS x d m w rb s (at_ + k) (some (wb, LB)) (some (ob, txt (packN LB), ha + k)) ks wr) (fun _ W => e - atOf rb W)
    case atStart => exact ⟨0, Nat.zero_le _, rfl, F7.out⟩
    case round =>
      obtain ⟨k, hk, hagr, hF⟩ := hrel
      have F := Lib.hid hF
      have AG := Lib.hid hagr
      obtain ⟨ak, hak⟩ : ∃ z, at_ + k = z := ⟨_, rfl⟩
      have HAK := Lib.hid hak
      have AT := Lib.hid (hak ▸ hF.at_)
      have AO := Lib.hid (hak ▸ hF.atOf)
      clear hF hagr
      by_cases hlt : k < tl
      · have i1 : decide ((ak : Int) < (e : Int)) = true := decide_eq_true (by omega)
        obtain ⟨n, hn⟩ : ∃ n : Nat, n = min 64 (tl - k) := ⟨_, rfl⟩
        have hn1 : n ≤ 64 := by omega
        have hn2 : k + n ≤ tl := by omega
        have hn3 : 1 ≤ n := by omega
        have hmin : min (64 : Int) ((e : Int) - (ak : Int)) = (n : Int) := by omega
        have T1 := Lib.hid (hak ▸ F.out.take DM.out n hn1 (by omega))
        obtain ⟨v1, hv1⟩ : ∃ v, num (((unpack (nats s)).drop ak).take n) = v := ⟨_, rfl⟩
        obtain ⟨v2, hv2⟩ : ∃ v, num (((unpack (nats (txt (packN LB)))).drop (ha + k)).take n) = v := ⟨_, rfl⟩
        have T2 : Hid (∀ W a, GS x d m w rb s a (some (wb, LB)) (some (ob, txt (packN LB), ha + k)) ks W → Calls Tryd.prog 77 #[.pointer (some ⟨ob, 0, none⟩), .int .i64 (n : Int)] W fun en w' => en = .returned (.tuple #[.int .u64 (v2 : Int), .int .i64 0]) ∧ GS x d m w rb s a (some (wb, LB)) (some (ob, txt (packN LB), ha + k + n)) ks w') := Lib.hid (fun W a h => hv2 ▸ h.otake DM.out n hn1 (by have := HOL.out; have := HTL.out; omega))
        have ST := agree_step (A := B.drop at_) (C := TL) (k := k) (n := n) AG.out (by rw [List.length_drop, B8.out]; omega) (by rw [HTL.out]; exact hn2)
        have e1 : ((B.drop at_).drop k).take n = ((unpack (nats s)).drop ak).take n := by rw [HB.out, List.drop_drop, hak]
        have e2 : (TL.drop k).take n = ((unpack (nats (txt (packN LB)))).drop (ha + k)).take n := by
          rw [← List.drop_drop, HR.out.2, List.drop_append_of_le_length (by rw [HTL.out]; omega), List.take_append_of_le_length (by rw [List.length_drop, HTL.out]; omega)]
        rw [e1, e2, hv1, hv2] at ST
        have HST := Lib.hid ST
        have SK : Hid (∀ W a o, GS x d m w rb s a (some (wb, LB)) o ks W → Calls Tryd.prog 40 #[.pointer (some ⟨rb, 0, none⟩), .int .i64 (e : Int)] W fun en w' => en = .returned (.int .i64 0) ∧ GS x d m w rb s e (some (wb, LB)) o ks w') := Lib.hid (fun W a o h => h.seek DM.out e he8)
        rw [hv1] at T1
        clear ST e1 e2 hv1 hv2 hn
        go_wp2_with fail
        with_reducible refine AT.out.mono ?_
        rintro en w8 ⟨rfl, rfl⟩
        go_wp2_with fail
        with_reducible refine AT.out.mono ?_
        rintro en w8 ⟨rfl, rfl⟩
        clear AT
        go_wp2_with fail
        with_reducible refine T1.out.mono ?_
        rintro en w8 ⟨rfl, h8⟩
        have F8 := Lib.hid h8
        clear T1 h8
        go_wp2_with fail
        with_reducible refine (T2.out _ _ F8.out).mono ?_
        rintro en w9 ⟨rfl, h9⟩
        have F9 := Lib.hid h9
        clear T2 h9
        by_cases hv : v1 = v2
        · have i2 : ((v1 : Int) != (v2 : Int)) = false := by simp [hv]
          have AG2 := Lib.hid (HST.out.1 hv)
          have AO2 := Lib.hid F9.out.atOf
          have GO : Hid (∃ k : Nat, k ≤ tl ∧ (B.drop at_).take k = TL.take k ∧ GS x d m w rb s (at_ + k) (some (wb, LB)) (some (ob, txt (packN LB), ha + k)) ks w9) := Lib.hid ⟨k + n, hn2, AG2.out, by
            have := F9.out
            rw [← hak, Nat.add_assoc, Nat.add_assoc] at this
            exact this⟩
          clear hv HST
          go_wp2_with fail
          go_roundw
          case rel => exact GO.out
          case measure => rw [AO2.out, AO.out]; omega
        · have i2 : ((v1 : Int) != (v2 : Int)) = true := by simp; omega
          have hres : res = false := by
            rw [← HRES.out]
            refine decide_eq_false (fun h => hv (HST.out.2 ?_))
            rw [HL.out] at h
            rw [h, List.take_take, Nat.min_eq_left hn2]
          subst hres
          have SK2 := Lib.hid (SK.out _ _ _ F9.out)
          clear hv HST SK
          go_wp2_with fail
          with_reducible refine SK2.out.mono ?_
          rintro en w10 ⟨rfl, h10⟩
          have OUT := Lib.hid (STOP.out _ _ _ _ _ h10)
          clear h10 SK2
          go_wp2_with fail
          go_ret
          exact ⟨rfl, OUT.out⟩
      · have hkt : k = tl := by omega
        subst hkt
        have i1 : decide ((ak : Int) < (e : Int)) = false := decide_eq_false (by omega)
        have hres : res = true := by
          rw [← HRES.out]
          refine decide_eq_true ?_
          rw [HL.out, AG.out, List.take_of_length_le (by rw [HTL.out]; exact Nat.le_refl _)]
        subst hres
        have hake : at_ + k = e := by omega
        have OUT := Lib.hid (hake ▸ STOP.out _ _ _ _ _ F.out)
        clear hake
        go_wp2_with fail
        with_reducible refine AT.out.mono ?_
        rintro en w8 ⟨rfl, rfl⟩
        go_wp2_with fail
        go_ret
        exact ⟨rfl, OUT.out⟩
end Go.Proofs.YtflnpcgnenhogaaDoor.ls
