/- Own lemmas, laid together. -/
import Derived.Test.YtflnpcgnenhogaaDoorLe6
import Derived.WalkKit
import Derived.ProofKit
import Derived.OpenShut
import Derived.ChangeSame
import Derived.Lib.LaidTab
import Derived.ChangeOld
import Derived.ChangeSlices
import Derived.ChangeMaps5
import Derived.Below
import Derived.SizedLaws
import Derived.Deep.Strs
namespace Go.Proofs.YtflnpcgnenhogaaDoor.ls
open Go.RowKit Go.Proofs.YtflnpcgnenhogaaDoor.own Go.Proofs.YtflnpcgnenhogaaDoor.bit

noncomputable def One.ec (o : One) : Int := open Classical in if o.may then 0 else 1
noncomputable def One.bs (o : One) : Bits := open Classical in if o.may then o.lay else []
theorem One.bs_len (o : One) : o.bs.length ≤ 5243040 := by
  unfold One.bs
  split
  · rename_i h
    obtain ⟨_, _, _, _, _, hN⟩ := One.nat h
    exact lay_len hN
  · exact Nat.zero_le _
def DS (w : World) (wb : Nat) (l : Bits) (qb : Nat) (B : Bits) (ks : List (Nat × Obj)) (W : World) : Prop :=
  ∃ x, Fr (fun _ => 100) x (fun c => c < 50) w W ∧ WrC x 0 W wb l ∧ QW x 7 W qb B ∧ ∀ p ∈ ks, x p.1 = 4 ∧ W.heap[p.1]? = some p.2
section
variable {w W W' : World} {wb qb : Nat} {l B : Bits} {ks js : List (Nat × Obj)}
theorem DS.below (h : DS w wb l qb B ks W) : Below w.heap.size w W := by
  obtain ⟨x, hf, _⟩ := h
  exact fr_below hf
theorem DS.row (h : DS w wb l qb B ks W) {b : Nat} {o : Obj} (hm : (b, o) ∈ ks) : W.heap[b]? = some o := by
  obtain ⟨x, _, _, _, hk⟩ := h
  exact (hk _ hm).2
theorem DS.sub (h : DS w wb l qb B ks W) (hs : ∀ p ∈ js, p ∈ ks) : DS w wb l qb B js W := by
  obtain ⟨x, hf, hw, hq, hk⟩ := h
  exact ⟨x, hf, hw, hq, fun p hp => hk p (hs p hp)⟩
theorem DS.more (h : DS w wb l qb B ks W) (k : Below W.heap.size W W') (hj : ∀ p ∈ js, W.heap.size ≤ p.1 ∧ W'.heap[p.1]? = some p.2) : DS w wb l qb B (js ++ ks) W' := by
  obtain ⟨x, hf, hw, hq, hk⟩ := h
  have f2 : Fr x (paint x W.heap.size 4) (fun e => e = 4) W W' := Fr.of_below k rfl
  refine ⟨_, hf.trans (f2.mono (fun c hc => by show c < 50; omega)), hw.frame f2 (by decide), VR.frame hq f2 (by decide), fun p hp => ?_⟩
  rcases List.mem_append.1 hp with hp | hp
  · exact ⟨paint_new (hj p hp).1, (hj p hp).2⟩
  · obtain ⟨h1, h2⟩ := hk p hp
    exact ⟨(paint_old (lt_of_block h2)).trans h1, (k.block _ (lt_of_block h2)).trans h2⟩
theorem DS.next (h : DS w wb l qb B ks W) (k : Below W.heap.size W W') : DS w wb l qb B ks W' := h.more (js := []) k (fun p hp => by cases hp)
theorem DS.drew (h : DS w wb l qb B ks W) : DS w wb l qb B ks W.drew := h.next (Below.drew (Below.refl _ _))
theorem DS.add (h : DS w wb l qb B ks W) (row : Array Value) (T : TypeId) : DS w wb l qb B ((W.heap.size, .cells row T (0, 0)) :: ks) (W.alloc (.cells row T)) :=
  h.more (js := [(W.heap.size, .cells row T (0, 0))]) ((Below.refl _ _).alloc (Nat.le_refl _) _) (fun p hp => by rw [List.mem_singleton.1 hp]; exact ⟨Nat.le_refl _, heap_alloc_new W _⟩)
theorem DS.start (h : FS w (some (wb, [])) none [] W) : DS w wb [] W.heap.size [] [] (W.alloc (.cells #[.slice none 0 0] 28)) := by
  obtain ⟨x, hf, hw, _, _⟩ := h
  have k : Below W.heap.size W (W.alloc (.cells #[.slice none 0 0] 28)) := (Below.refl _ _).alloc (Nat.le_refl _) _
  have f2 : Fr x (paint x W.heap.size 7) (fun e => e = 7) W (W.alloc (.cells #[.slice none 0 0] 28)) := Fr.of_below k rfl
  exact ⟨_, hf.trans (f2.mono (fun c hc => by show c < 50; omega)), (hw _ rfl).frame f2 (by decide), ⟨_, heap_alloc_new W _, paint_new (Nat.le_refl _), World.ownsRow_nil _ _ _ _, fun g hg => by cases hg⟩, fun p hp => by cases hp⟩
theorem DS.q (h : DS w wb l qb B ks W) : ∃ s d, W.cell? ⟨qb, 0, none⟩ = some (.slice s B.length d) ∧ W.ownsRow 0 4 1 (.slice s B.length d) B.length (bls B) := by
  obtain ⟨x, _, _, ⟨v, h0, _, ho, _⟩, _⟩ := h
  obtain ⟨s, d, rfl⟩ := own_shape ho
  exact ⟨s, d, by rw [cell_of_row _ _ _ _ _ _ h0]; rfl, ho⟩
/-- what the law reads of a One -/
structure OIn (o : One) (W : World) (sc rc : Nat) (sa ra : Option Addr) : Prop where
  s : LV W sa o.succ
  r : LV W ra o.ref
  sc : o.succ.length ≤ sc
  rc : o.ref.length ≤ rc
theorem DS.bits (h : DS w wb l qb B ks W) (hG : GL w) (o : One) {sa ra : Option Addr} {sc rc : Nat} (hi : OIn o W sc rc sa ra) :
    Calls Tryd.prog 9 #[.int .i64 o.X, .slice sa o.succ.length sc, .slice ra o.ref.length rc, .int .i64 o.R, parV o.win o.itv o.zet] W fun e w' => e = .returned (.tuple #[.int .i64 (o.bs.length : Int), .int .i64 o.ec]) ∧ Below W.heap.size W w' := by
  unfold One.bs One.ec
  split
  · rename_i hm
    obtain ⟨e1, e2, e3, e4, e5, hN⟩ := One.nat hm
    rw [e1, e2, e3, e4, e5]
    exact lbits_yes o.pr o.X.toNat W (hG.below h.below) sa o.succ sc ra o.ref rc o.R.toNat hi.sc hi.rc hN hi.s hi.r
  · rename_i hm
    exact lbits_no o.win o.itv o.zet o.X W sa o.succ sc ra o.ref rc o.R hm hi.s hi.r
theorem DS.enc (h : DS w wb l qb B ks W) (hG : GL w) (o : One) {sa ra : Option Addr} {sc rc : Nat} (hi : OIn o W sc rc sa ra) (hl : l.length ≤ 100000000) :
    Calls Tryd.prog 11 #[.pointer (some ⟨wb, 0, none⟩), .int .i64 o.X, .slice sa o.succ.length sc, .slice ra o.ref.length rc, .int .i64 o.R, parV o.win o.itv o.zet] W fun e w' => e = .returned (.int .i64 o.ec) ∧ DS w wb (l ++ o.bs) qb B ks w' := by
  have hb := o.bs_len
  unfold One.bs at hb
  unfold One.bs One.ec
  split
  · rename_i hm
    rw [if_pos hm] at hb
    have kb := h.below
    obtain ⟨y, hf, hw, hq, hk⟩ := h
    obtain ⟨e1, e2, e3, e4, e5, hN⟩ := One.nat hm
    rw [e1, e2, e3, e4, e5]
    refine (lenc_yes y 0 1 2 (by decide) (by decide) (by decide) o.pr o.X.toNat W (hG.below kb) wb l sa o.succ sc ra o.ref rc o.R.toNat hi.sc hi.rc hN hi.s hi.r (by show l.length + o.lay.length ≤ _; omega) hw).mono ?_
    rintro e w' ⟨rfl, x', f2, hw2⟩
    exact ⟨rfl, x', hf.trans (f2.mono (fun c hc => by show c < 50; omega)), hw2, VR.frame hq f2 (by decide), rows_frame hk f2 (by decide)⟩
  · rename_i hm
    refine (lenc_no wb o.win o.itv o.zet o.X W sa o.succ sc ra o.ref rc o.R hm hi.s hi.r).mono ?_
    rintro e w' ⟨rfl, k⟩
    exact ⟨rfl, by rw [List.append_nil]; exact h.next k⟩
theorem DS.denc (h : DS w wb l qb B ks W) (o : One) {sa ra : Option Addr} {sc rc : Nat} (hi : OIn o W sc rc sa ra) (hl : B.length ≤ 100000000) :
    Calls Tryd.prog 12 #[.pointer (some ⟨qb, 0, none⟩), .int .i64 o.X, .slice sa o.succ.length sc, .slice ra o.ref.length rc, .int .i64 o.R, parV o.win o.itv o.zet] W fun e w' => e = .returned (.int .i64 o.ec) ∧ DS w wb l qb (B ++ o.bs) ks w' := by
  have hb := o.bs_len
  unfold One.bs at hb
  unfold One.bs One.ec
  split
  · rename_i hm
    rw [if_pos hm] at hb
    obtain ⟨y, hf, hw, hq, hk⟩ := h
    obtain ⟨e1, e2, e3, e4, e5, hN⟩ := One.nat hm
    rw [e1, e2, e3, e4, e5]
    refine (denc_yes y 7 o.pr o.X.toNat W qb B sa o.succ sc ra o.ref rc o.R.toNat hi.sc hi.rc hN hi.s hi.r (by show B.length + o.lay.length ≤ _; omega) hq).mono ?_
    rintro e w' ⟨rfl, x', f2, hq2⟩
    exact ⟨rfl, x', hf.trans (f2.mono (fun c hc => by show c < 50; omega)), hw.frame f2 (by decide), hq2, rows_frame hk f2 (by decide)⟩
  · rename_i hm
    refine (denc_no qb o.win o.itv o.zet o.X W sa o.succ sc ra o.ref rc o.R hm hi.s hi.r).mono ?_
    rintro e w' ⟨rfl, k⟩
    exact ⟨rfl, by rw [List.append_nil]; exact h.next k⟩
theorem DS.text (h : DS w wb l qb B ks W) :
    Calls Tryd.prog 13 #[.pointer (some ⟨wb, 0, none⟩)] W fun e w' => e = .returned (.tuple #[.string (txt (packN l)), .int .i64 0]) ∧ W = w' := by
  obtain ⟨x, _, hw, _⟩ := h
  exact text_any x 0 W wb l hw
end
end Go.Proofs.YtflnpcgnenhogaaDoor.ls
namespace Go.Proofs.YtflnpcgnenhogaaDoor.ls
open Go.RowKit Go.Proofs.YtflnpcgnenhogaaDoor.own Go.Proofs.YtflnpcgnenhogaaDoor.bit

/-- a One's row in memory -/
def oneO (o : One) : Obj := .cells #[.int .i64 o.X, .slice o.sa o.succ.length o.sc, .slice o.ra o.ref.length o.rc, .int .i64 o.R, .int .i64 o.win, .int .i64 o.itv, .int .i64 o.zet] 33 (0, 0)
def OneAt (xb : Nat) (o : One) (W : World) : Prop := W.cell? ⟨xb, 0, none⟩ = some (.int .i64 o.X) ∧ W.cell? ⟨xb, 1, none⟩ = some (.slice o.sa o.succ.length o.sc) ∧ W.cell? ⟨xb, 2, none⟩ = some (.slice o.ra o.ref.length o.rc) ∧ W.cell? ⟨xb, 3, none⟩ = some (.int .i64 o.R) ∧ W.cell? ⟨xb, 4, none⟩ = some (.int .i64 o.win) ∧ W.cell? ⟨xb, 5, none⟩ = some (.int .i64 o.itv) ∧ W.cell? ⟨xb, 6, none⟩ = some (.int .i64 o.zet)
theorem LF.one {w W : World} {wr : Option (Nat × Bits)} {rd : Option (Nat × ByteArray × Nat)} {ks : List (Nat × Obj)} {vm ve : Value} {M : List One} {E : List Nat} {xb : Nat} {o : One} (h : LF w wr rd ks vm M ve E W) (hm : (xb, oneO o) ∈ ks) : OneAt xb o W := by
  have r := h.row hm
  unfold oneO at r
  exact ⟨by rw [cell_of_row _ _ _ _ _ _ r]; rfl, by rw [cell_of_row _ _ _ _ _ _ r]; rfl, by rw [cell_of_row _ _ _ _ _ _ r]; rfl, by rw [cell_of_row _ _ _ _ _ _ r]; rfl, by rw [cell_of_row _ _ _ _ _ _ r]; rfl, by rw [cell_of_row _ _ _ _ _ _ r]; rfl, by rw [cell_of_row _ _ _ _ _ _ r]; rfl⟩
section
variable {w W : World} {wr : Option (Nat × Bits)} {ks : List (Nat × Obj)} {vm ve : Value} {M : List One} {E : List Nat}
theorem LF.open (h : LF w wr none ks vm M ve E W) (s : ByteArray) (hs : s.size ≤ 1152921504606846975) :
    Calls Tryd.prog 20 #[.string s] W fun e w' => ∃ rb : Nat, e = .returned (.pointer (some ⟨rb, 0, none⟩)) ∧ LF w wr (some (rb, s, 0)) ks vm M ve E w' :=
  h.callX (P := fun (rb : Nat) e => e = .returned (.pointer (some ⟨rb, 0, none⟩))) (wr' := fun _ => wr) (rd' := fun rb => some (rb, s, 0)) (fun _ h => h.open s hs)
theorem LF.at_ {rb a : Nat} {s : ByteArray} (h : LF w wr (some (rb, s, a)) ks vm M ve E W) : Calls Tryd.prog 24 #[.pointer (some ⟨rb, 0, none⟩)] W fun e w' => e = .returned (.int .i64 (a : Int)) ∧ W = w' := h.fs.at_
theorem LF.head {rb a : Nat} {s : ByteArray} (h : LF w wr (some (rb, s, a)) ks vm M ve E W) (hG : GL w) (p : Pr) (hp : p.ok) :
    Calls Tryd.prog 21 #[.pointer (some ⟨rb, 0, none⟩), parV (p.win : Int) (p.itv : Int) (p.zet : Int)] W fun e w' =>
      e = .returned (hrV (hread p.win (unpack (nats s)) a)) ∧ LF w wr (some (rb, s, hrA a (hread p.win (unpack (nats s)) a))) ks vm M ve E w' :=
  h.call (P := fun e _ => e = .returned (hrV (hread p.win (unpack (nats s)) a))) (fun _ h => h.head hG p hp)
end
end Go.Proofs.YtflnpcgnenhogaaDoor.ls
namespace Go.Proofs.YtflnpcgnenhogaaDoor.ls
open Go.RowKit Go.Proofs.YtflnpcgnenhogaaDoor.own Go.Proofs.YtflnpcgnenhogaaDoor.bit

theorem DS.one {w W : World} {wb qb : Nat} {l B : Bits} {ks : List (Nat × Obj)} {xb : Nat} {o : One} (h : DS w wb l qb B ks W) (hm : (xb, oneO o) ∈ ks) : OneAt xb o W := by
  have r := h.row hm
  unfold oneO at r
  exact ⟨by rw [cell_of_row _ _ _ _ _ _ r]; rfl, by rw [cell_of_row _ _ _ _ _ _ r]; rfl, by rw [cell_of_row _ _ _ _ _ _ r]; rfl, by rw [cell_of_row _ _ _ _ _ _ r]; rfl, by rw [cell_of_row _ _ _ _ _ _ r]; rfl, by rw [cell_of_row _ _ _ _ _ _ r]; rfl, by rw [cell_of_row _ _ _ _ _ _ r]; rfl⟩
set_option maxRecDepth 100000 in
set_option maxHeartbeats 6400000 in
theorem encs_any (w : World) (hG : GL w) (haw : ∀ W, Below w.heap.size w W → Calls Tryd.prog 18 #[] W fun e w' => e = .returned (.bool true) ∧ Below W.heap.size W w')
    (a : Option Addr) (L : List One) (cap : Nat) (hL : OL w a L) (hLs : ∀ o ∈ L, o.succ.length < 35184372088832 ∧ o.ref.length < 35184372088832) (hc0 : L.length ≤ cap) (hl0 : L.length ≤ 4611686018427387903) :
    Calls Tryd.prog 3 #[.slice a L.length cap] w fun e w' => e = .returned (.bool true) ∧ Below w.heap.size w w' := by
  obtain ⟨hc, hl⟩ : L.length ≤ cap ∧ L.length ≤ 4611686018427387903 := ⟨hc0, hl0⟩
  have G := Lib.hid hG
  have AW := Lib.hid haw
  have HL := Lib.hid hL
  have HS := Lib.hid hLs
  have F0 := Lib.hid (FS.start w).new
  obtain ⟨n, hn⟩ : ∃ n, L.length = n := ⟨_, rfl⟩
  have HN := Lib.hid hn
  rw [hn] at hc hl ⊢
  clear hG haw hL hn hLs hc0 hl0
  go_enter Tryd.func3, Tryd.ntmps3
  go_wp2_with fail
  with_reducible refine F0.out.mono ?_
  rintro e w1 ⟨wb, rfl, h1⟩
  have D0 := Lib.hid (DS.start h1)
  clear h1 F0
  go_upto_region 3 with fail
  generalize hqb : w1.heap.size = qb at D0 ⊢
  generalize World.alloc w1 _ = w2 at D0 ⊢
  clear hqb
  go_wp2_with fail
  go_loopw [5] (fun v5 wr => ∃ (i : Nat) (l : Bits), v5 = .int .i64 (i : Int) ∧ i ≤ n ∧ i ≤ 12 ∧ l.length ≤ 5243040 * i ∧ DS w wb l qb l [] wr) (fun v5 _ => n - (intOf v5).toNat)
  case atStart => exact ⟨0, [], rfl, Nat.zero_le _, Nat.zero_le _, Nat.zero_le _, D0.out⟩
  case round =>
    obtain ⟨i, l, rfl, hin, hi12, hll, hD⟩ := hrel
    have D := Lib.hid hD
    have KB := Lib.hid hD.below
    clear hD D0
    by_cases hlt : i < n ∧ i < 12
    · --A
      obtain ⟨hlt1, hlt2⟩ := hlt
      have i1 : decide ((i : Int) < (n : Int)) = true := decide_eq_true (by omega)
      have i2 : decide ((i : Int) < (12 : Int)) = true := decide_eq_true (by omega)
      have hiL : i < L.length := by rw [HN.out]; exact hlt1
      obtain ⟨g, o, ha, hg, hcells, hIn⟩ := (HL.out.below KB.out) i hiL
      obtain ⟨O, hO⟩ : ∃ O, L[i] = O := ⟨_, rfl⟩
      have hInw : O.In w := by
        obtain ⟨_, _, _, _, _, h⟩ := HL.out i hiL
        rw [hO] at h
        exact h
      have HSZ := Lib.hid (HS.out O (by rw [← hO]; exact List.getElem_mem _))
      have HIN := Lib.hid hInw
      rw [hO, Nat.mul_comm] at hcells
      obtain ⟨X, sa, succ, sc, ra, ref, rc, R, win, itv, zet⟩ := O
      have e0 := hcells 0 (by decide)
      have e1 := hcells 1 (by decide)
      have e2 := hcells 2 (by decide)
      have e3 := hcells 3 (by decide)
      have e4 := hcells 4 (by decide)
      have e5 := hcells 5 (by decide)
      have e6 := hcells 6 (by decide)
      unfold One.cells at e0 e1 e2 e3 e4 e5 e6
      rw [Nat.add_zero] at e0
      dsimp only at e0 e1 e2 e3 e4 e5 e6
      subst ha
      clear hcells hIn hO
      go_upto_region 7 with fail
      obtain ⟨O, hO⟩ : ∃ O : One, O = ⟨X, sa, succ, sc, ra, ref, rc, R, win, itv, zet⟩ := ⟨_, rfl⟩
      have f2 := D.out.add #[.int .i64 X, .slice sa succ.length sc, .slice ra ref.length rc, .int .i64 R, .int .i64 win, .int .i64 itv, .int .i64 zet] 33
      obtain ⟨xb, hxb⟩ : ∃ z, wr.heap.size = z := ⟨_, rfl⟩
      obtain ⟨ks, hks⟩ : ∃ k, (wr.heap.size, Obj.cells #[.int .i64 X, .slice sa succ.length sc, .slice ra ref.length rc, .int .i64 R, .int .i64 win, .int .i64 itv, .int .i64 zet] 33 (0, 0)) :: [] = k := ⟨_, rfl⟩
      have MX : Hid ((xb, oneO O) ∈ ks) := Lib.hid (by rw [← hks, hxb, hO]; exact List.mem_cons_self ..)
      rw [hks] at f2
      rw [hxb]
      have HO := Lib.hid hO
      generalize World.alloc wr _ = w2 at f2 ⊢
      have D2 := Lib.hid f2
      have CC : Hid (∀ W l B ks', (∀ p ∈ ks, p ∈ ks') → DS w wb l qb B ks' W → W.cell? ⟨xb, 0, none⟩ = some (.int .i64 X) ∧ W.cell? ⟨xb, 1, none⟩ = some (.slice sa succ.length sc) ∧ W.cell? ⟨xb, 2, none⟩ = some (.slice ra ref.length rc) ∧ W.cell? ⟨xb, 3, none⟩ = some (.int .i64 R) ∧ W.cell? ⟨xb, 4, none⟩ = some (.int .i64 win) ∧ W.cell? ⟨xb, 5, none⟩ = some (.int .i64 itv) ∧ W.cell? ⟨xb, 6, none⟩ = some (.int .i64 zet)) := Lib.hid (fun W l B ks' hk h => by
        have c := h.one (hk _ MX.out)
        rw [HO.out] at c
        exact c)
      have OW := Lib.hid (fun W => pown_any win itv zet W)
      obtain ⟨-, c1, c2, -⟩ := CC.out _ _ _ _ (fun p hp => hp) f2
      have L1 : Hid (∀ W, Below w.heap.size w W → Calls Tryd.prog 8 #[.slice sa succ.length sc] W (LentP succ W)) := Lib.hid (fun W k => lent_any W sa succ sc HSZ.out.1 (HIN.out.1.below k))
      have L2 : Hid (∀ W, Below w.heap.size w W → Calls Tryd.prog 8 #[.slice ra ref.length rc] W (LentP ref W)) := Lib.hid (fun W k => lent_any W ra ref rc HSZ.out.2 (HIN.out.2.2.1.below k))
      clear f2 hks hO e0 e1 e2 e3 e4 e5 e6 hg hInw D KB hxb
      go_wp2_with fail
      with_reducible refine (L1.out _ D2.out.below).mono ?_
      rintro e w3 ⟨ga, ca, cura, rfl, hga, hra, hLa, k3⟩
      have D3 := Lib.hid (D2.out.more (js := [(ga, .cells cura 60 (0, 0))]) k3 (fun p hp => by rw [List.mem_singleton.1 hp]; exact ⟨hga, hra⟩))
      have HLa := Lib.hid hLa
      clear hga hra hLa k3 c1 c2 D2
      obtain ⟨-, c1, c2, -⟩ := CC.out _ _ _ _ (fun p hp => List.mem_append_right _ hp) D3.out
      go_wp2_with fail
      with_reducible refine (L2.out _ D3.out.below).mono ?_
      rintro e w4 ⟨gb, cb, curb, rfl, hgb, hrb, hLb, k4⟩
      have D4 := Lib.hid (D3.out.more (js := [(gb, .cells curb 60 (0, 0))]) k4 (fun p hp => by rw [List.mem_singleton.1 hp]; exact ⟨hgb, hrb⟩))
      have HLb := Lib.hid hLb
      obtain ⟨ks4, hks4⟩ : ∃ k, [(gb, Obj.cells curb 60 (0, 0))] ++ ([(ga, Obj.cells cura 60 (0, 0))] ++ ks) = k := ⟨_, rfl⟩
      rw [hks4] at D4
      have MA : Hid ((ga, Obj.cells cura 60 (0, 0)) ∈ ks4) := Lib.hid (by rw [← hks4]; exact List.mem_append_right _ (List.mem_append_left _ (List.mem_singleton.2 rfl)))
      have MB : Hid ((gb, Obj.cells curb 60 (0, 0)) ∈ ks4) := Lib.hid (by rw [← hks4]; exact List.mem_append_left _ (List.mem_singleton.2 rfl))
      have CD := Lib.hid (fun W l B (h : DS w wb l qb B ks4 W) => CC.out W l B ks4 (fun p hp => by rw [← hks4]; exact List.mem_append_right _ (List.mem_append_right _ hp)) h)
      clear hgb hrb hLb k4 c1 c2 D3 hks4 CC
      have OI : Hid (∀ W l B, DS w wb l qb B ks4 W → OIn O W ca cb (some ⟨ga, 0, none⟩) (some ⟨gb, 0, none⟩)) := Lib.hid (fun W l B h => by
        rw [HO.out]
        exact ⟨HLa.out.lv (h.row MA.out), HLb.out.lv (h.row MB.out), by have := HLa.out.1; show succ.length ≤ ca; omega, by have := HLb.out.1; show ref.length ≤ cb; omega⟩)
      have OX : Hid (∀ W l B, DS w wb l qb B ks4 W → OIn O W sc rc sa ra) := Lib.hid (fun W l B h => by
        rw [HO.out]
        exact ⟨HIN.out.1.below h.below, HIN.out.2.2.1.below h.below, HIN.out.2.1, HIN.out.2.2.2⟩)
      obtain ⟨bs, hbs⟩ : ∃ b, O.bs = b := ⟨_, rfl⟩
      obtain ⟨ec, hec⟩ : ∃ b, O.ec = b := ⟨_, rfl⟩
      have hb9 : bs.length ≤ 5243040 := by rw [← hbs]; exact O.bs_len
      have BI : Hid (∀ W l B, DS w wb l qb B ks4 W → Calls Tryd.prog 9 #[.int .i64 X, .slice (some ⟨ga, 0, none⟩) succ.length ca, .slice (some ⟨gb, 0, none⟩) ref.length cb, .int .i64 R, .agg #[.int .i64 win, .int .i64 itv, .int .i64 zet]] W fun e w' => e = .returned (.tuple #[.int .i64 (bs.length : Int), .int .i64 ec]) ∧ Below W.heap.size W w') := Lib.hid (fun W l B h => by
        have h2 := h.bits G.out O (OI.out W l B h)
        rw [hbs, hec, HO.out] at h2
        exact h2)
      have EN : Hid (∀ W l B, l.length ≤ 100000000 → DS w wb l qb B ks4 W → Calls Tryd.prog 11 #[.pointer (some ⟨wb, 0, none⟩), .int .i64 X, .slice (some ⟨ga, 0, none⟩) succ.length ca, .slice (some ⟨gb, 0, none⟩) ref.length cb, .int .i64 R, .agg #[.int .i64 win, .int .i64 itv, .int .i64 zet]] W fun e w' => e = .returned (.int .i64 ec) ∧ DS w wb (l ++ bs) qb B ks4 w') := Lib.hid (fun W l B hl h => by
        have h2 := h.enc G.out O (OI.out W l B h) hl
        rw [hbs, hec, HO.out] at h2
        exact h2)
      have DE : Hid (∀ W l B, B.length ≤ 100000000 → DS w wb l qb B ks4 W → Calls Tryd.prog 12 #[.pointer (some ⟨qb, 0, none⟩), .int .i64 X, .slice sa succ.length sc, .slice ra ref.length rc, .int .i64 R, .agg #[.int .i64 win, .int .i64 itv, .int .i64 zet]] W fun e w' => e = .returned (.int .i64 ec) ∧ DS w wb l qb (B ++ bs) ks4 w') := Lib.hid (fun W l B hl h => by
        have h2 := h.denc O (OX.out W l B h) hl
        rw [hbs, hec, HO.out] at h2
        exact h2)
      have hl9 : l.length ≤ 62916480 := by omega
      clear hbs hec
      obtain ⟨sq, dq, c9, -⟩ := D4.out.q
      go_upto_region 10 with fail
      clear c9
      obtain ⟨c0, c1, c2, c3, c4, c5, c6⟩ := CD.out _ _ _ D4.out
      --R10
      go_region_held3 (fun w' => w'.cell? ⟨xb, 0, none⟩ = some (.int .i64 X) ∧ w'.cell? ⟨xb, 1, none⟩ = some (.slice sa succ.length sc) ∧ w'.cell? ⟨xb, 2, none⟩ = some (.slice ra ref.length rc) ∧ w'.cell? ⟨xb, 3, none⟩ = some (.int .i64 R) ∧ w'.cell? ⟨xb, 4, none⟩ = some (.int .i64 win) ∧ w'.cell? ⟨xb, 5, none⟩ = some (.int .i64 itv) ∧ w'.cell? ⟨xb, 6, none⟩ = some (.int .i64 zet))
        (first | exact CD.out _ _ _ D4.out | exact CD.out _ _ _ D4.out.drew | exact CD.out _ _ _ (by assumption) | exact CD.out _ _ _ (DS.drew (by assumption)))
        (first
          | (go_at_call 10; (with_reducible refine (OW.out _).mono ?_); rintro e w5 ⟨rfl, k5⟩; have h5 := (by first | exact D4.out.drew.next k5 | exact D4.out.next k5 : DS w wb l qb l ks4 w5))
          | (go_at_call 9; (with_reducible refine (BI.out _ _ _ (by first | exact h5 | exact h5.drew)).mono ?_); rintro e w6 ⟨rfl, k6⟩; have h6 := (by first | exact h5.next k6 | exact h5.drew.next k6 : DS w wb l qb l ks4 w6)))
      have D6 := Lib.hid h6
      clear h5 h6 k5 k6 D4 BI c0 c1 c2 c3 c4 c5 c6
      go_upto_region 11 with fail
      obtain ⟨c0, c1, c2, c3, c4, c5, c6⟩ := CD.out _ _ _ D6.out
      --R11
      go_region_held3 (fun w' => w'.cell? ⟨xb, 0, none⟩ = some (.int .i64 X) ∧ w'.cell? ⟨xb, 1, none⟩ = some (.slice sa succ.length sc) ∧ w'.cell? ⟨xb, 2, none⟩ = some (.slice ra ref.length rc) ∧ w'.cell? ⟨xb, 3, none⟩ = some (.int .i64 R) ∧ w'.cell? ⟨xb, 4, none⟩ = some (.int .i64 win) ∧ w'.cell? ⟨xb, 5, none⟩ = some (.int .i64 itv) ∧ w'.cell? ⟨xb, 6, none⟩ = some (.int .i64 zet))
        (first | exact CD.out _ _ _ D6.out | exact CD.out _ _ _ D6.out.drew | exact CD.out _ _ _ (by assumption) | exact CD.out _ _ _ (DS.drew (by assumption)))
        (first
          | (go_at_call 10; (with_reducible refine (OW.out _).mono ?_); rintro e w5 ⟨rfl, k5⟩; have h5 := (by first | exact D6.out.drew.next k5 | exact D6.out.next k5 : DS w wb l qb l ks4 w5))
          | (go_at_call 11; (with_reducible refine (EN.out _ _ _ (Nat.le_trans hl9 (by decide)) (by first | exact h5 | exact h5.drew)).mono ?_); rintro e w8 ⟨rfl, h8⟩))
      have D8 := Lib.hid h8
      clear h5 h8 k5 D6 EN c0 c1 c2 c3 c4 c5 c6
      obtain ⟨c0, c1, c2, c3, c4, c5, c6⟩ := CD.out _ _ _ D8.out
      go_wp2_with fail
      with_reducible refine (DE.out _ _ _ (Nat.le_trans hl9 (by decide)) D8.out).mono ?_
      rintro e w9 ⟨rfl, h9⟩
      obtain ⟨L2, hL2⟩ : ∃ b, l ++ bs = b := ⟨_, rfl⟩
      have D9 : Hid (DS w wb L2 qb L2 ks4 w9) := Lib.hid (by rw [← hL2]; exact h9)
      have hL2l : L2.length = l.length + bs.length := by rw [← hL2, List.length_append]
      clear h9 D8 DE c0 c1 c2 c3 c4 c5 c6 hL2
      have TX := Lib.hid D9.out.text
      go_wp2_with fail
      with_reducible refine TX.out.mono ?_
      rintro e w10 ⟨rfl, rfl⟩
      go_upto_region 14 with fail
      obtain ⟨s2, d2, hq2, ho2⟩ := D9.out.q
      have hc9 := CD.out _ _ _ D9.out
      have MF : Hid (∀ W, Below w9.heap.size w9 W → W.cell? ⟨xb, 0, none⟩ = some (.int .i64 X) ∧ W.cell? ⟨xb, 1, none⟩ = some (.slice sa succ.length sc) ∧ W.cell? ⟨xb, 2, none⟩ = some (.slice ra ref.length rc) ∧ W.cell? ⟨xb, 3, none⟩ = some (.int .i64 R) ∧ W.cell? ⟨xb, 4, none⟩ = some (.int .i64 win) ∧ W.cell? ⟨xb, 5, none⟩ = some (.int .i64 itv) ∧ W.cell? ⟨xb, 6, none⟩ = some (.int .i64 zet) ∧ W.cell? ⟨qb, 0, none⟩ = some (.slice s2 L2.length d2) ∧ Below w9.heap.size w9 W) := Lib.hid (fun W k => by
        obtain ⟨c0, c1, c2, c3, c4, c5, c6⟩ := hc9
        have cc : ∀ p v, w9.cell? p = some v → W.cell? p = some v := fun p v h => (k.cell (World.block_lt_of_cell? _ _ h)).trans h
        exact ⟨cc _ _ c0, cc _ _ c1, cc _ _ c2, cc _ _ c3, cc _ _ c4, cc _ _ c5, cc _ _ c6, cc _ _ hq2, k⟩)
      have TD : Hid (∀ W, Below w9.heap.size w9 W → Calls Tryd.prog 14 #[.slice s2 L2.length d2] W fun e w' => e = .returned (.string (txt (packN L2))) ∧ Below W.heap.size W w') := Lib.hid (fun W k => Text_any W 0 (.slice s2 L2.length d2) L2 (by omega) (own_below ho2 k))
      have KA : Hid (∀ W, Below w9.heap.size w9 W → Calls Tryd.prog 15 #[.slice (some ⟨ga, 0, none⟩) succ.length ca, .slice sa succ.length sc] W fun e w' => e = .returned (.bool true) ∧ Below W.heap.size W w') := Lib.hid (fun W k => by
        have hx := OX.out W L2 L2 (D9.out.next k)
        have hi := (D9.out.next k).row MA.out
        rw [HO.out] at hx
        exact kept_any W ga succ ca cura sa sc HLa.out hi hx.sc hx.s)
      have KR : Hid (∀ W, Below w9.heap.size w9 W → Calls Tryd.prog 15 #[.slice (some ⟨gb, 0, none⟩) ref.length cb, .slice ra ref.length rc] W fun e w' => e = .returned (.bool true) ∧ Below W.heap.size W w') := Lib.hid (fun W k => by
        have hx := OX.out W L2 L2 (D9.out.next k)
        have hi := (D9.out.next k).row MB.out
        rw [HO.out] at hx
        exact kept_any W gb ref cb curb ra rc HLb.out hi hx.rc hx.r)
      obtain ⟨ck, hck⟩ : ∃ z : Int, (if ParOk win itv zet then 0 else 1) = z := ⟨_, rfl⟩
      have PC := Lib.hid (fun W => pcheck_any win itv zet W)
      have DC := Lib.hid (fun W => dcheck_any win itv zet W)
      rw [hck] at PC DC
      unfold parV at PC DC
      obtain ⟨t2, ht2⟩ : ∃ t, txt (packN L2) = t := ⟨_, rfl⟩
      rw [ht2] at TD ⊢
      have w1 : IntKind.i64.wrap ((L2.length : Int) - (l.length : Int)) = (bs.length : Int) := by rw [IntWalk.i64_in _ (by omega)]; omega
      have q1 : (ec != ec) = false := by simp
      have q2 : (ck != ck) = false := by simp
      have q3 : ((bs.length : Int) != (bs.length : Int)) = false := by simp
      have KX := Lib.hid (fun W W' (h : Below w9.heap.size w9 W) (k : Below W.heap.size W W') => h.trans (k.mono h.size))
      have K0 := Below.refl w9.heap.size w9
      have HL2 := Lib.hid hL2l
      clear hc9 hq2 ho2 hck hL2l
      --R14
      go_region_held3 (fun W => W.cell? ⟨xb, 0, none⟩ = some (.int .i64 X) ∧ W.cell? ⟨xb, 1, none⟩ = some (.slice sa succ.length sc) ∧ W.cell? ⟨xb, 2, none⟩ = some (.slice ra ref.length rc) ∧ W.cell? ⟨xb, 3, none⟩ = some (.int .i64 R) ∧ W.cell? ⟨xb, 4, none⟩ = some (.int .i64 win) ∧ W.cell? ⟨xb, 5, none⟩ = some (.int .i64 itv) ∧ W.cell? ⟨xb, 6, none⟩ = some (.int .i64 zet) ∧ W.cell? ⟨qb, 0, none⟩ = some (.slice s2 L2.length d2) ∧ Below w9.heap.size w9 W)
        (first | exact MF.out _ (by assumption) | exact MF.out _ (Below.drew (by assumption)))
        (first
          | (go_at_call 14; (with_reducible refine (TD.out _ (by first | assumption | exact Below.drew (by assumption))).mono ?_); rintro e w11 ⟨rfl, k1⟩; have k7 := (by first | exact KX.out _ _ (by assumption) k1 | exact KX.out _ _ (Below.drew (by assumption)) k1 : Below w9.heap.size w9 w11))
          | (go_at_call_of 15 (Value.slice (some ⟨ga, 0, none⟩) succ.length ca); (with_reducible refine (KA.out _ (by first | assumption | exact Below.drew (by assumption))).mono ?_); rintro e w11 ⟨rfl, k1⟩; have k7 := (by first | exact KX.out _ _ (by assumption) k1 | exact KX.out _ _ (Below.drew (by assumption)) k1 : Below w9.heap.size w9 w11))
          | (go_at_call_of 15 (Value.slice (some ⟨gb, 0, none⟩) ref.length cb); (with_reducible refine (KR.out _ (by first | assumption | exact Below.drew (by assumption))).mono ?_); rintro e w11 ⟨rfl, k1⟩; have k7 := (by first | exact KX.out _ _ (by assumption) k1 | exact KX.out _ _ (Below.drew (by assumption)) k1 : Below w9.heap.size w9 w11))
          | (go_at_call 10; (with_reducible refine (OW.out _).mono ?_); rintro e w11 ⟨rfl, k1⟩; have k7 := (by first | exact KX.out _ _ (by assumption) k1 | exact KX.out _ _ (Below.drew (by assumption)) k1 : Below w9.heap.size w9 w11))
          | (go_at_call 16; (with_reducible refine (PC.out _).mono ?_); rintro e w11 ⟨rfl, k1⟩; have k7 := (by first | exact KX.out _ _ (by assumption) k1 | exact KX.out _ _ (Below.drew (by assumption)) k1 : Below w9.heap.size w9 w11))
          | (go_at_call 17; (with_reducible refine (DC.out _).mono ?_); rintro e w11 ⟨rfl, k1⟩; have k7 := (by first | exact KX.out _ _ (by assumption) k1 | exact KX.out _ _ (Below.drew (by assumption)) k1 : Below w9.heap.size w9 w11)))
      have D11 : Hid (DS w wb L2 qb L2 [] w11) := Lib.hid ((D9.out.next k7).sub (fun p hp => by cases hp))
      clear k7 k1 K0 q1 q2 q3 w1 D9 MF TD KA KR
      go_wp2_with fail
      go_roundw
      case rel => exact ⟨i + 1, L2, by go_num, by omega, by omega, by rw [HL2.out]; omega, D11.out⟩
      case measure => simp [intOf]; omega
    · go_upto_region 4 with fail
      go_cut [26] from 19 to 26 (fun v26 wd => v26 = .bool false ∧ wd = wr)
      case first =>
        by_cases hlt1 : i < n
        · have i1 : decide ((i : Int) < (n : Int)) = true := decide_eq_true (by omega)
          have i2 : decide ((i : Int) < (12 : Int)) = false := decide_eq_false (by omega)
          go_wp2_with fail
          go_meet
          case rel => exact ⟨rfl, rfl⟩
        · have i1 : decide ((i : Int) < (n : Int)) = false := decide_eq_false (by omega)
          go_wp2_with fail
          go_meet
          case rel => exact ⟨rfl, rfl⟩
      case rest =>
      obtain ⟨rfl, hwd⟩ := hcut
      subst hwd
      go_wp2_with fail
      with_reducible refine (AW.out _ KB.out).mono ?_
      rintro e w3 ⟨rfl, k3⟩
      have K3 := Lib.hid (KB.out.trans (k3.mono KB.out.size))
      clear k3
      go_wp2_with fail
      go_ret
      exact ⟨rfl, K3.out⟩
end Go.Proofs.YtflnpcgnenhogaaDoor.ls
namespace Go.Proofs.YtflnpcgnenhogaaDoor.ls
open Go.ChangeShapes Go.WideShapes Go.ChangeAt Go.RowKit

theorem int_of_trod {H : Type} {enc : TypeId × Value → H} {P : Program} {w : World} {base : Nat} {sp : Nat → Bool} {held : Bool} {fuel : Nat} {t : TypeId} {k : IntKind} {c : Value} {y : DataW H × List MemPlace}
    (ht : P.underlying t = some (.int k)) (h : DataW.trod enc P w base sp held fuel t [c] = some y) : ∃ n, c = .int k n ∧ y = (.lit (.int k n), []) := by
  cases fuel with
  | zero => simp [DataW.trod] at h
  | succ fuel =>
    cases c <;> simp [DataW.trod, ht] at h
    rename_i k' n
    obtain ⟨⟨rfl, _⟩, rfl⟩ := h
    exact ⟨n, rfl, rfl⟩

theorem bytesU32 : Tryd.prog.bytesOf 60 = 4 := by kernel_rfl
theorem cellsU32 : Tryd.prog.cellsOf 60 = 1 := by kernel_rfl
/-- numbers that came in, opened -/
theorem u32_open {H : Type} {enc : TypeId × Value → H} {W : World} {a : Option Addr} {len cap : Nat} {d : DataW H} {p : List MemPlace}
    (h : DataW.Trod enc Tryd.prog W 0 (fun _ => true) true 29 (.slice a len cap) d p) (hs : ∀ e s, d = .slice e s → e.length + s.length ≤ 4611686018427387903) : ∃ l : List Nat, l.length = len ∧ len ≤ cap ∧ LV W a l := by
  obtain ⟨fuel, hf⟩ := h
  rcases open_ints Tryd.underlying29 Tryd.underlying60 cellsU32 hf with ⟨hcs, _⟩ | ⟨x, len', cap', zs, hcs, _, hl, hm, hz, hd, hc, hw⟩
  · simp [Value.cells] at hcs
    obtain ⟨rfl, rfl, rfl⟩ := hcs
    exact ⟨[], rfl, Nat.le_refl _, Nat.zero_le _, fun j hj => by cases hj⟩
  · simp [Value.cells] at hcs
    obtain ⟨rfl, rfl, rfl⟩ := hcs
    have hz : zs.length = cap := by simpa using hz
    have ln : ((zs.take len).map Int.toNat).length = len := by rw [List.length_map, List.length_take]; omega
    have hl9 : len ≤ 4611686018427387903 := by
      have h9 := hs _ _ (congrArg Prod.fst hd)
      simp [lits] at h9
      omega
    refine ⟨(zs.take len).map Int.toNat, ln, hl, by rw [ln]; exact hl9, fun j hj => ?_⟩
    rw [ln] at hj
    have g0 := hc j (by omega)
    obtain ⟨b, o, sp⟩ := x
    have hsp := World.cell?_spot g0
    have hsp : sp = none := by
      by_cases hj0 : j = 0
      · subst hj0; simpa [Addr.add] using hsp
      · have g1 := hc 0 (by omega)
        have := World.cell?_spot g1
        simpa [Addr.add] using this
    subst hsp
    have e : zs.getD j 0 = zs[j]'(by omega) := by rw [List.getD_eq_getElem?_getD, List.getElem?_eq_getElem (by omega)]; rfl
    have g1 : W.cell? ⟨b, o + j, none⟩ = some (.int .u32 (zs[j]'(by omega))) := by rw [Addr.add_lit, e] at g0; exact g0
    have hwf := hw (zs[j]'(by omega)) (List.getElem_mem _)
    simp [Lit.wf] at hwf
    obtain ⟨q1, q2⟩ := hwf
    have e1 : IntKind.u32.min = 0 := by decide
    have e2 : IntKind.u32.max = 4294967295 := by decide
    rw [e1] at q1
    rw [e2] at q2
    refine ⟨b, o, rfl, World.block_lt_of_cell? W _ g1, ?_, ?_⟩
    · rw [g1]
      simp only [List.getElem_map, List.getElem_take]
      rw [Int.toNat_of_nonneg q1]
    · simp only [List.getElem_map, List.getElem_take]
      omega


theorem weights_all {H : Type} {P : Program} {e : TypeId} : ∀ {l : List (DataW H)} {d : DataW H}, d ∈ l → ∀ n ∈ d.weights P e, n ∈ DataW.weightsAll P e l
  | a :: l, d, hd, n, hn => by
    simp only [DataW.weightsAll, List.mem_append]
    rcases List.mem_cons.1 hd with rfl | hd
    · exact .inl hn
    · exact .inr (weights_all hd n hn)
theorem c_one : Tryd.prog.cellsOf 33 = 7 := by kernel_rfl
theorem c_par : Tryd.prog.cellsOf 31 = 3 := by kernel_rfl
theorem c_u32s : Tryd.prog.cellsOf 29 = 1 := by kernel_rfl
theorem c_int : Tryd.prog.cellsOf 3 = 1 := by kernel_rfl
theorem b_one : Tryd.prog.bytesOf 33 = 88 := by kernel_rfl
/-- a list in a cell that came in -/
theorem u32s_open {H : Type} {enc : TypeId × Value → H} {W : World} {fuel : Nat} {v : Value} {y : DataW H × List MemPlace} (h : DataW.trod enc Tryd.prog W 0 (fun _ => true) true fuel 29 [v] = some y) (hs : ∀ n ∈ y.1.weights Tryd.prog 29, n ≤ reachBytes) :
    ∃ (a : Option Addr) (l : List Nat) (cap : Nat), v = .slice a l.length cap ∧ l.length ≤ cap ∧ LV W a l ∧ l.length < 35184372088832 := by
  have hv : ∃ a len cap, v = .slice a len cap := by
    rcases open_ints Tryd.underlying29 Tryd.underlying60 cellsU32 h with ⟨hcs, _⟩ | ⟨x, len', cap', zs, hcs, _⟩
    · injection hcs with hcs _
      exact ⟨_, _, _, hcs⟩
    · injection hcs with hcs _
      exact ⟨_, _, _, hcs⟩
  obtain ⟨a, len, cap, rfl⟩ := hv
  have hT : DataW.Trod enc Tryd.prog W 0 (fun _ => true) true 29 (.slice a len cap) y.1 y.2 := ⟨fuel, h⟩
  have few : ∀ e s, y.1 = .slice e s → (e.length + s.length) * 4 < 140737488355328 := fun e s he => by
    have h9 := hs ((e.length + s.length) * Tryd.prog.bytesOf 60) (by rw [he]; simp [DataW.weights, Tryd.underlying29])
    rw [bytesU32] at h9
    have := reachBytes_lt
    omega
  have hlen : len < 35184372088832 := by
    obtain ⟨fuel2, hf⟩ := hT
    rcases open_ints Tryd.underlying29 Tryd.underlying60 cellsU32 hf with ⟨hcs, _⟩ | ⟨x, len', cap', zs, hcs, _, hl, hm, hz, hd, hc, hw⟩
    · simp [Value.cells] at hcs
      omega
    · simp [Value.cells] at hcs
      obtain ⟨rfl, rfl, rfl⟩ := hcs
      have hz : zs.length = cap := by simpa using hz
      have h9 := few _ _ (congrArg Prod.fst hd)
      simp [lits] at h9
      omega
  obtain ⟨l, rfl, h2, h3⟩ := u32_open hT (fun e s he => by have := few e s he; omega)
  exact ⟨a, l, cap, rfl, h2, h3, hlen⟩
set_option maxRecDepth 100000 in
/-- Ones that came in, opened -/
theorem ones_open2 {H : Type} {enc : TypeId × Value → H} {W : World} {a : Option Addr} {len cap : Nat} {d : DataW H} {p : List MemPlace} (h : DataW.Trod enc Tryd.prog W 0 (fun _ => true) true 22 (.slice a len cap) d p)
    (hs : ∀ n ∈ d.weights Tryd.prog 22, n ≤ reachBytes) : ∃ L : List One, L.length = len ∧ len ≤ cap ∧ len ≤ 4611686018427387903 ∧ OL W a L ∧ ∀ o ∈ L, o.succ.length < 35184372088832 ∧ o.ref.length < 35184372088832 := by
  obtain ⟨fuel, hf⟩ := h
  rcases DataW.trod_slice Tryd.underlying22 hf with ⟨hcs, _⟩ | ⟨ad, l', c', elems, rest, n, _, hcs, hx, hb, hl, hm, hlen, hel, _, _⟩
  · simp [Value.cells] at hcs
    obtain ⟨rfl, rfl, rfl⟩ := hcs
    exact ⟨[], rfl, Nat.le_refl _, Nat.zero_le _, fun k hk => by simp at hk, fun o ho => by cases ho⟩
  · simp [Value.cells] at hcs
    obtain ⟨rfl, rfl, rfl⟩ := hcs
    obtain ⟨hd, _⟩ := Prod.mk.inj hx
    subst hd
    rw [DataW.weights, Tryd.underlying22] at hs
    have hl6 : len ≤ 4611686018427387903 := by
      have h9 := hs _ (List.mem_cons_self ..)
      rw [b_one, List.length_map, hlen] at h9
      have := reachBytes_lt
      have e : (2 : Nat) ^ 47 = 140737488355328 := by decide
      have h3 : len * 88 ≤ (len + (rest.map (·.1)).length) * 88 := Nat.mul_le_mul_right _ (Nat.le_add_right _ _)
      omega
    have each : ∀ i : Nat, ∃ o : One, (i < len → (∀ k, k < 7 → W.cell? (ad.add (i * 7 + k)) = o.cells[k]?) ∧ o.In W) ∧ o.succ.length < 35184372088832 ∧ o.ref.length < 35184372088832 := by
      intro i
      by_cases hi : i < len
      · have he := hel i hi
        rw [c_one, List.getElem?_eq_getElem (by omega), Option.bind_eq_some_iff] at he
        obtain ⟨cs, hc, ht⟩ := he
        obtain ⟨_, hcl, hcell⟩ := World.cells?_some hc
        have hw : ∀ n ∈ (elems[i]'(by omega)).1.weights Tryd.prog 33, n ≤ reachBytes := fun n hn => hs n (List.mem_cons_of_mem _ (List.mem_append_left _ (weights_all (List.mem_map_of_mem (List.getElem_mem _)) n hn)))
        obtain ⟨xs, m, _, hx, _, hxl, hg⟩ := DataW.trod_struct Tryd.underlying33 ht
        rw [hx, DataW.weights, Tryd.underlying33] at hw
        match cs, hcl with
        | [v0, v1, v2, v3, v4, v5, v6], _ =>
          match xs, hxl with
          | [y0, y1, y2, y3, y4], _ =>
            have h0 := hg 0 _ rfl
            have h1 := hg 1 _ rfl
            have h2 := hg 2 _ rfl
            have h3 := hg 3 _ rfl
            have h4 := hg 4 _ rfl
            simp [c_u32s, c_int, c_par] at h0 h1 h2 h3 h4
            obtain ⟨X, rfl, _⟩ := int_of_trod Tryd.underlying3 h0
            obtain ⟨R, rfl, _⟩ := int_of_trod Tryd.underlying3 h3
            obtain ⟨sa, succ, sc, rfl, hs1, hs2, hs3⟩ := u32s_open h1 (fun n hn => hw n (DataW.weights_mem_each (j := 1) rfl rfl n hn))
            obtain ⟨ra, ref, rc, rfl, hr1, hr2, hr3⟩ := u32s_open h2 (fun n hn => hw n (DataW.weights_mem_each (j := 2) rfl rfl n hn))
            obtain ⟨xs4, m4, _, _, _, hx4, hg4⟩ := DataW.trod_struct Tryd.underlying31 h4
            match xs4, hx4 with
            | [z0, z1, z2], _ =>
              have k0 := hg4 0 _ rfl
              have k1 := hg4 1 _ rfl
              have k2 := hg4 2 _ rfl
              simp [c_int] at k0 k1 k2
              obtain ⟨win, rfl, _⟩ := int_of_trod Tryd.underlying3 k0
              obtain ⟨itv, rfl, _⟩ := int_of_trod Tryd.underlying3 k1
              obtain ⟨zet, rfl, _⟩ := int_of_trod Tryd.underlying3 k2
              refine ⟨⟨X, sa, succ, sc, ra, ref, rc, R, win, itv, zet⟩, fun _ => ⟨fun k hk => ?_, hs2, hs1, hr2, hr1⟩, hs3, hr3⟩
              have h9 := hcell k (by simpa using hk)
              rw [show ad.add (i * 7 + k) = (ad.add (i * 7)).add k from by
                unfold Addr.add
                by_cases q1 : i * 7 = 0 <;> by_cases q2 : k = 0 <;> simp [q1, q2, Nat.add_assoc]]
              exact h9
      · exact ⟨⟨0, none, [], 0, none, [], 0, 0, 0, 0, 0⟩, fun h => absurd h hi, by decide, by decide⟩
    obtain ⟨f, hff⟩ := Classical.axiomOfChoice each
    refine ⟨(List.range len).map f, by simp, hl, hl6, fun i hi => ?_, fun o ho => by obtain ⟨i, _, rfl⟩ := List.mem_map.1 ho; exact (hff i).2⟩
    have hi' : i < len := by simpa using hi
    obtain ⟨h1, h2⟩ := (hff i).1 hi'
    obtain ⟨g, o, s⟩ := ad
    have h0 := ((hff 0).1 (by omega)).1 0 (by decide)
    have hsn : s = none := by
      have := World.cell?_spot (h0.trans (by rfl))
      simpa [Addr.add] using this
    subst hsn
    have hc : ∀ k, k < 7 → W.cell? ⟨g, o + 7 * i + k, none⟩ = (f i).cells[k]? := fun k hk => by
      have := h1 k hk
      rw [Addr.add_lit] at this
      rw [← this]
      congr 2
      omega
    refine ⟨g, o, rfl, World.block_lt_of_cell? _ _ ((hc 0 (by decide)).trans rfl), fun k hk => ?_, ?_⟩
    · rw [hc k hk]
      simp
    · simpa using h2
end Go.Proofs.YtflnpcgnenhogaaDoor.ls
