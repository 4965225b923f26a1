/- list: the law of there and back, walked. list's cards: lists and Ones that came in, opened. -/
import Derived.Test.YtflnpcgnenhogaaDoorMgDd
import Derived.WalkKit
import Derived.ProofKit
import Derived.OpenShut
import Derived.ChangeSame
import Derived.Lib.LaidTab
import Derived.ChangeOld
import Derived.ChangeSlices
import Derived.ChangeMaps5
import Derived.Below
import Derived.SizedLaws
import Derived.Deep.Strs
namespace Go.Proofs.YtflnpcgnenhogaaDoor.ls
open Go.RowKit Go.Proofs.YtflnpcgnenhogaaDoor.own Go.Proofs.YtflnpcgnenhogaaDoor.bit

/-- a One's row in memory -/
def oneO (o : One) : Obj := .cells #[.int .i64 o.X, .slice o.sa o.succ.length o.sc, .slice o.ra o.ref.length o.rc, .int .i64 o.R, .int .i64 o.win, .int .i64 o.itv, .int .i64 o.zet] 33 (0, 0)
def OneAt (xb : Nat) (o : One) (W : World) : Prop := W.cell? ⟨xb, 0, none⟩ = some (.int .i64 o.X) ∧ W.cell? ⟨xb, 1, none⟩ = some (.slice o.sa o.succ.length o.sc) ∧ W.cell? ⟨xb, 2, none⟩ = some (.slice o.ra o.ref.length o.rc) ∧ W.cell? ⟨xb, 3, none⟩ = some (.int .i64 o.R) ∧ W.cell? ⟨xb, 4, none⟩ = some (.int .i64 o.win) ∧ W.cell? ⟨xb, 5, none⟩ = some (.int .i64 o.itv) ∧ W.cell? ⟨xb, 6, none⟩ = some (.int .i64 o.zet)
theorem LF.one {w W : World} {wr : Option (Nat × Bits)} {rd : Option (Nat × ByteArray × Nat)} {ks : List (Nat × Obj)} {vm ve : Value} {M : List One} {E : List Nat} {xb : Nat} {o : One} (h : LF w wr rd ks vm M ve E W) (hm : (xb, oneO o) ∈ ks) : OneAt xb o W := by
  have r := h.row hm
  unfold oneO at r
  exact ⟨by rw [cell_of_row _ _ _ _ _ _ r]; rfl, by rw [cell_of_row _ _ _ _ _ _ r]; rfl, by rw [cell_of_row _ _ _ _ _ _ r]; rfl, by rw [cell_of_row _ _ _ _ _ _ r]; rfl, by rw [cell_of_row _ _ _ _ _ _ r]; rfl, by rw [cell_of_row _ _ _ _ _ _ r]; rfl, by rw [cell_of_row _ _ _ _ _ _ r]; rfl⟩
theorem LF.enc_yes {w W : World} {wb : Nat} {l : Bits} {rd : Option (Nat × ByteArray × Nat)} {ks : List (Nat × Obj)} {vm ve : Value} {M : List One} {E : List Nat} (h : LF w (some (wb, l)) rd ks vm M ve E W) (hG : GL w) (o : One) (hin : o.In w) (hm : o.may) (hl : l.length + o.lay.length ≤ 134217728) :
    Calls Tryd.prog 11 #[.pointer (some ⟨wb, 0, none⟩), .int .i64 o.X, .slice o.sa o.succ.length o.sc, .slice o.ra o.ref.length o.rc, .int .i64 o.R, parV o.win o.itv o.zet] W fun e w' => e = .returned (.int .i64 0) ∧ LF w (some (wb, l ++ o.lay)) rd ks vm M ve E w' :=
  h.call (P := fun e _ => e = .returned (.int .i64 0)) (fun _ h => h.enc_yes hG o hin hm hl)
theorem LF.enc_no {w W : World} {wb : Nat} {l : Bits} {rd : Option (Nat × ByteArray × Nat)} {ks : List (Nat × Obj)} {vm ve : Value} {M : List One} {E : List Nat} (h : LF w (some (wb, l)) rd ks vm M ve E W) (hG : GL w) (o : One) (hin : o.In w) (hm : ¬ (o.may ∧ l.length + o.lay.length ≤ 134217728)) :
    Calls Tryd.prog 11 #[.pointer (some ⟨wb, 0, none⟩), .int .i64 o.X, .slice o.sa o.succ.length o.sc, .slice o.ra o.ref.length o.rc, .int .i64 o.R, parV o.win o.itv o.zet] W fun e w' => (∃ ec : Int, e = .returned (.int .i64 ec) ∧ ec ≠ 0) ∧ LF w (some (wb, l)) rd ks vm M ve E w' :=
  h.call (P := fun e _ => ∃ ec : Int, e = .returned (.int .i64 ec) ∧ ec ≠ 0) (fun _ h => (h.enc_no hG o hin hm).mono (by
    rintro e w' ⟨ec, rfl, h1, h2⟩
    exact ⟨⟨ec, rfl, h1⟩, h2⟩))
section
variable {w W : World} {wr : Option (Nat × Bits)} {ks : List (Nat × Obj)} {vm ve : Value} {M : List One} {E : List Nat}
theorem LF.open (h : LF w wr none ks vm M ve E W) (s : ByteArray) (hs : s.size ≤ 1152921504606846975) :
    Calls Tryd.prog 20 #[.string s] W fun e w' => ∃ rb : Nat, e = .returned (.pointer (some ⟨rb, 0, none⟩)) ∧ LF w wr (some (rb, s, 0)) ks vm M ve E w' :=
  h.callX (P := fun (rb : Nat) e => e = .returned (.pointer (some ⟨rb, 0, none⟩))) (wr' := fun _ => wr) (rd' := fun rb => some (rb, s, 0)) (fun _ h => h.open s hs)
theorem LF.at_ {rb a : Nat} {s : ByteArray} (h : LF w wr (some (rb, s, a)) ks vm M ve E W) : Calls Tryd.prog 24 #[.pointer (some ⟨rb, 0, none⟩)] W fun e w' => e = .returned (.int .i64 (a : Int)) ∧ W = w' := h.fs.at_
theorem LF.head {rb a : Nat} {s : ByteArray} (h : LF w wr (some (rb, s, a)) ks vm M ve E W) (hG : GL w) (p : Pr) (hp : p.ok) :
    Calls Tryd.prog 21 #[.pointer (some ⟨rb, 0, none⟩), parV (p.win : Int) (p.itv : Int) (p.zet : Int)] W fun e w' =>
      e = .returned (hrV (hread p.win (unpack (nats s)) a)) ∧ LF w wr (some (rb, s, hrA a (hread p.win (unpack (nats s)) a))) ks vm M ve E w' :=
  h.call (P := fun e _ => e = .returned (hrV (hread p.win (unpack (nats s)) a))) (fun _ h => h.head hG p hp)
theorem LF.decode {rb a : Nat} {s : ByteArray} (h : LF w wr (some (rb, s, a)) ks vm M ve E W) (hG : GL w) (xv n deg r : Nat) (p : Pr) (hx : xv < 65536) (hn : n ≤ 65536) (hd : deg ≤ 65536) (hr : r ≤ p.win) (hp : p.ok)
    (ar : Option Addr) (ref : List Nat) (cap : Nat) (hcap : ref.length ≤ cap) (hris : Ris ref) (hr0 : 0 < r ∨ ref = []) (hA : LV w ar ref) (q : List Nat × Nat) (hq : dec (unpack (nats s)) xv n deg ref r p a = some q) :
    Calls Tryd.prog 22 #[.pointer (some ⟨rb, 0, none⟩), .int .i64 (xv : Int), .int .i64 (n : Int), .agg #[.int .i64 (deg : Int), .int .i64 (r : Int)], .slice ar ref.length cap, parV (p.win : Int) (p.itv : Int) (p.zet : Int)] W fun e w' =>
      (∃ v, e = .returned (.tuple #[v, .int .i64 0]) ∧ w'.ownsRow 0 60 1 v q.1.length (u32V q.1)) ∧ LF w wr (some (rb, s, q.2)) ks vm M ve E w' :=
  h.call (P := fun e w' => ∃ v, e = .returned (.tuple #[v, .int .i64 0]) ∧ w'.ownsRow 0 60 1 v q.1.length (u32V q.1)) (fun _ h => (h.decode hG xv n deg r p hx hn hd hr hp ar ref cap hcap hris hr0 hA q hq).mono (by
    rintro e w' ⟨v, rfl, h1, h2⟩
    exact ⟨⟨v, rfl, h1⟩, h2⟩))
end
set_option maxRecDepth 100000 in
set_option maxHeartbeats 6400000 in
theorem back_any (w : World) (hG : GL w) (haw : ∀ W, Below w.heap.size w W → Calls Tryd.prog 18 #[] W fun e w' => e = .returned (.bool true) ∧ Below W.heap.size W w')
    (a : Option Addr) (L : List One) (cap : Nat) (hL : OL w a L) (hc0 : L.length ≤ cap) (hl0 : L.length ≤ 4611686018427387903) :
    Calls Tryd.prog 4 #[.slice a L.length cap] w fun e w' => e = .returned (.bool true) ∧ Below w.heap.size w w' := by
  obtain ⟨hc, hl⟩ : L.length ≤ cap ∧ L.length ≤ 4611686018427387903 := ⟨hc0, hl0⟩
  obtain ⟨i0, z0, hi, hz0, hz1, hz2, hz3⟩ := one_info
  obtain ⟨j0, hj, hj0, hj1, hj2⟩ := info_parts Tryd.infoInt
  have G := Lib.hid hG
  have AW := Lib.hid haw
  have HL := Lib.hid hL
  have F0 := Lib.hid (FS.start w).new
  obtain ⟨n, hn⟩ : ∃ n, L.length = n := ⟨_, rfl⟩
  have HN := Lib.hid hn
  rw [hn] at hc hl ⊢
  clear hG haw hL hn
  go_enter Tryd.func4, Tryd.ntmps4
  go_wp2_with fail
  with_reducible refine F0.out.mono ?_
  rintro e w1 ⟨wb, rfl, h1⟩
  have F1 := Lib.hid (LF.start h1)
  clear h1 F0
  go_wp2_with fail
  go_loopw [4, 5, 6] (fun v4 v5 v6 wr => ∃ (i : Nat) (M : List One), v6 = .int .i64 (i : Int) ∧ i ≤ n ∧ i ≤ 30 ∧ M.length ≤ i ∧ (∀ o ∈ M, o.may ∧ o.In w) ∧ LF w (some (wb, laysOf M)) none [] v4 M v5 (endsOf 0 M) wr) (fun _ _ v6 _ => n - (intOf v6).toNat)
  case atStart => exact ⟨0, [], rfl, Nat.zero_le _, Nat.zero_le _, Nat.zero_le _, fun o h => (by cases h), F1.out⟩
  case round =>
    obtain ⟨i, M, rfl, hin, hi30, hMi, hM, hF⟩ := hrel
    have HM := Lib.hid hM
    have F := Lib.hid hF
    obtain ⟨sm, cm, rfl⟩ := own_shape hF.1
    obtain ⟨se, ce, rfl⟩ := own_shape hF.2.1
    have KB := Lib.hid hF.below
    obtain ⟨nm, hnm⟩ : ∃ k, M.length = k := ⟨_, rfl⟩
    have hne : (endsOf 0 M).length = nm := by rw [endsOf_length, hnm]
    have HNM := Lib.hid hnm
    rw [hnm, hne] at F ⊢
    rw [hnm] at hMi
    have HNE := Lib.hid hne
    clear hM hF hnm hne
    by_cases hlt : i < n ∧ i < 30
    · --A
      obtain ⟨hlt1, hlt2⟩ := hlt
      have i1 : decide ((i : Int) < (n : Int)) = true := decide_eq_true (by omega)
      have i2 : decide ((i : Int) < (30 : Int)) = true := decide_eq_true (by omega)
      have hiL : i < L.length := by rw [HN.out]; exact hlt1
      obtain ⟨g, o, ha, hg, hcells, hIn⟩ := (HL.out.below KB.out) i hiL
      obtain ⟨O, hO⟩ : ∃ O, L[i] = O := ⟨_, rfl⟩
      have hInw : O.In w := by
        obtain ⟨_, _, _, _, _, h⟩ := HL.out i hiL
        rw [hO] at h
        exact h
      have HIN := Lib.hid hInw
      rw [hO, Nat.mul_comm] at hcells
      obtain ⟨X, sa, succ, sc, ra, ref, rc, R, win, itv, zet⟩ := O
      have e0 := hcells 0 (by decide)
      have e1 := hcells 1 (by decide)
      have e2 := hcells 2 (by decide)
      have e3 := hcells 3 (by decide)
      have e4 := hcells 4 (by decide)
      have e5 := hcells 5 (by decide)
      have e6 := hcells 6 (by decide)
      unfold One.cells at e0 e1 e2 e3 e4 e5 e6
      rw [Nat.add_zero] at e0
      dsimp only at e0 e1 e2 e3 e4 e5 e6
      subst ha
      clear hcells hIn hO
      go_upto_region 8 with fail
      obtain ⟨O, hO⟩ : ∃ O : One, O = ⟨X, sa, succ, sc, ra, ref, rc, R, win, itv, zet⟩ := ⟨_, rfl⟩
      have f2 := F.out.add #[.int .i64 X, .slice sa succ.length sc, .slice ra ref.length rc, .int .i64 R, .int .i64 win, .int .i64 itv, .int .i64 zet] 33
      obtain ⟨xb, hxb⟩ : ∃ z, wr.heap.size = z := ⟨_, rfl⟩
      obtain ⟨ks, hks⟩ : ∃ k, (wr.heap.size, Obj.cells #[.int .i64 X, .slice sa succ.length sc, .slice ra ref.length rc, .int .i64 R, .int .i64 win, .int .i64 itv, .int .i64 zet] 33 (0, 0)) :: [] = k := ⟨_, rfl⟩
      have MX : Hid ((xb, oneO O) ∈ ks) := Lib.hid (by rw [← hks, hxb, hO]; exact List.mem_cons_self ..)
      rw [hks] at f2
      rw [hxb]
      have HO := Lib.hid hO
      generalize World.alloc wr _ = w2 at f2 ⊢
      have F2 := Lib.hid f2
      have c := f2.one MX.out
      rw [hO] at c
      obtain ⟨c0, c1, c2, c3, c4, c5, c6⟩ := c
      dsimp only at c0 c1 c2 c3 c4 c5 c6
      have CC : Hid (∀ W b, LF w (some (wb, b)) none ks (.slice sm nm cm) M (.slice se nm ce) (endsOf 0 M) W → W.cell? ⟨xb, 0, none⟩ = some (.int .i64 X) ∧ W.cell? ⟨xb, 1, none⟩ = some (.slice sa succ.length sc) ∧ W.cell? ⟨xb, 2, none⟩ = some (.slice ra ref.length rc) ∧ W.cell? ⟨xb, 3, none⟩ = some (.int .i64 R) ∧ W.cell? ⟨xb, 4, none⟩ = some (.int .i64 win) ∧ W.cell? ⟨xb, 5, none⟩ = some (.int .i64 itv) ∧ W.cell? ⟨xb, 6, none⟩ = some (.int .i64 zet)) := Lib.hid (fun W b h => by
        have c := h.one MX.out
        rw [HO.out] at c
        exact c)
      have OW := Lib.hid (fun W => pown_any win itv zet W)
      clear f2 hks hO e0 e1 e2 e3 e4 e5 e6 hg hInw F KB hxb
      by_cases hm : O.may ∧ (laysOf M).length + O.lay.length ≤ 134217728
      · have EN : Hid (∀ W, LF w (some (wb, laysOf M)) none ks (.slice sm nm cm) M (.slice se nm ce) (endsOf 0 M) W → Calls Tryd.prog 11 #[.pointer (some ⟨wb, 0, none⟩), .int .i64 X, .slice sa succ.length sc, .slice ra ref.length rc, .int .i64 R, .agg #[.int .i64 win, .int .i64 itv, .int .i64 zet]] W fun e w' => e = .returned (.int .i64 0) ∧ LF w (some (wb, laysOf M ++ O.lay)) none ks (.slice sm nm cm) M (.slice se nm ce) (endsOf 0 M) w') := Lib.hid (fun W h => by
          have h2 := h.enc_yes G.out O (by rw [HO.out]; exact HIN.out) hm.1 hm.2
          rw [HO.out] at h2 ⊢
          exact h2)
        have HMY := Lib.hid hm.1
        clear hm
        go_region_held3 (fun w' => w'.cell? ⟨xb, 0, none⟩ = some (.int .i64 X) ∧ w'.cell? ⟨xb, 1, none⟩ = some (.slice sa succ.length sc) ∧ w'.cell? ⟨xb, 2, none⟩ = some (.slice ra ref.length rc) ∧ w'.cell? ⟨xb, 3, none⟩ = some (.int .i64 R) ∧ w'.cell? ⟨xb, 4, none⟩ = some (.int .i64 win) ∧ w'.cell? ⟨xb, 5, none⟩ = some (.int .i64 itv) ∧ w'.cell? ⟨xb, 6, none⟩ = some (.int .i64 zet))
          (first | exact CC.out _ _ F2.out | exact CC.out _ _ F2.out.drew | exact CC.out _ _ (by assumption) | exact CC.out _ _ (LF.drew (by assumption)))
          (first | (go_at_call 10; refine (OW.out _).mono ?_; rintro e w3 ⟨rfl, k3⟩; have h3 := (by first | exact F2.out.drew.next k3 | exact F2.out.next k3 : LF w (some (wb, laysOf M)) none ks (.slice sm nm cm) M (.slice se nm ce) (endsOf 0 M) w3)) | (go_at_call 11; refine (EN.out _ (by first | assumption | exact LF.drew (by assumption))).mono ?_; rintro e w4 ⟨rfl, h4⟩))
        have F4 := Lib.hid h4
        clear h4 h3 k3 EN F2 OW
        clear c0 c1 c2 c3 c4 c5 c6
        obtain ⟨c0, c1, c2, c3, c4, c5, c6⟩ := CC.out _ _ F4.out
        have HOC : Hid (O.cells = [.int .i64 X, .slice sa succ.length sc, .slice ra ref.length rc, .int .i64 R, .int .i64 win, .int .i64 itv, .int .i64 zet]) := Lib.hid (by rw [HO.out]; rfl)
        have OWN1 := Lib.hid (HNM.out ▸ F4.out.1.alloc (.cells #[.int .i64 X, .slice sa succ.length sc, .slice ra ref.length rc, .int .i64 R, .int .i64 win, .int .i64 itv, .int .i64 zet] 33))
        have C1 : Hid (∀ j u, ([.int .i64 X, .slice sa succ.length sc, .slice ra ref.length rc, .int .i64 R, .int .i64 win, .int .i64 itv, .int .i64 zet] : List Value)[j]? = some u → (w4.alloc (.cells #[.int .i64 X, .slice sa succ.length sc, .slice ra ref.length rc, .int .i64 R, .int .i64 win, .int .i64 itv, .int .i64 zet] 33)).cell? ((⟨w4.heap.size, 0, none⟩ : Addr).add j) = some u) := Lib.hid (fun j u hu => by
          rw [Addr.add_lit, cell_of_row _ _ _ _ _ _ (heap_alloc_new _ _), Nat.zero_add]; simpa using hu)
        have CO : Hid (∀ u ∈ ([.int .i64 X, .slice sa succ.length sc, .slice ra ref.length rc, .int .i64 R, .int .i64 win, .int .i64 itv, .int .i64 zet] : List Value), u.oneCell' = true) := Lib.hid (by rw [← HOC.out]; exact one_one O)
        have C3 : Hid (nm + 1 ≤ maxLen) := Lib.hid (by simp only [maxLen]; omega)
        have C4 : Hid ((nm + 1) * 88 ≤ 140737488355328) := Lib.hid (by omega)
        go_wp2_with (at_builtin; refine wpList_append_at _ rfl _ _ 22 rfl 0 33 i0 z0 7 88 Tryd.underlying22 hi hz0 hz1 hz2 hz3 (by decide) _ nm _ rfl OWN1.out ⟨w4.heap.size, 0, none⟩ 1 1 [.int .i64 X, .slice sa succ.length sc, .slice ra ref.length rc, .int .i64 R, .int .i64 win, .int .i64 itv, .int .i64 zet] rfl rfl C1.out CO.out C3.out C4.out (Nat.zero_le _) (by decide) ?_)
        intro v' w5 own' hg5 hw5
        have F5 : Hid (LF w (some (wb, laysOf M ++ O.lay)) none ks v' (M ++ [O]) (.slice se nm ce) (endsOf 0 M) w5) := Lib.hid ((F4.out.next ((Below.refl _ _).alloc (Nat.le_refl _) _)).addM O (by rw [HNM.out, HOC.out]; exact own') hg5 (by simpa using hw5))
        obtain ⟨s5, d5, rfl⟩ := own_shape own'
        clear own' hg5 hw5 C1 CO C3 C4 OWN1 c0 c1 c2 c3 c4 c5 c6 F4 CC
        have LEN := Lib.hid F5.out.fs.len
        obtain ⟨lb, hlb⟩ : ∃ k, (laysOf M ++ O.lay).length = k := ⟨_, rfl⟩
        rw [hlb] at LEN
        have HLB := Lib.hid hlb
        clear hlb
        go_wp2_with fail
        with_reducible refine LEN.out.mono ?_
        rintro e w6 ⟨rfl, rfl⟩
        have OWN1 := Lib.hid (HNE.out ▸ F5.out.2.1.alloc (.cells #[.int .i64 (lb : Int)] 3))
        have C1 : Hid (∀ j u, ([.int .i64 (lb : Int)] : List Value)[j]? = some u → (w5.alloc (.cells #[.int .i64 (lb : Int)] 3)).cell? ((⟨w5.heap.size, 0, none⟩ : Addr).add j) = some u) := Lib.hid (fun j u hu => by
          rw [Addr.add_lit, cell_of_row _ _ _ _ _ _ (heap_alloc_new _ _), Nat.zero_add]; simpa using hu)
        have C3 : Hid (nm + 1 ≤ maxLen) := Lib.hid (by simp only [maxLen]; omega)
        have C4 : Hid ((nm + 1) * 8 ≤ 140737488355328) := Lib.hid (by omega)
        go_wp2_with (at_builtin; refine wpList_append_at _ rfl _ _ 50 rfl 0 3 j0 _ 1 8 Tryd.underlying50 hj hj0 hj1 hj2 rfl (by decide) _ nm _ rfl OWN1.out ⟨w5.heap.size, 0, none⟩ 1 1 [.int .i64 (lb : Int)] rfl rfl C1.out (fun u hu => by simp at hu; subst hu; rfl) C3.out C4.out (Nat.zero_le _) (by decide) ?_)
        intro v' w6 own' hg6 hw6
        have F6 : Hid (LF w (some (wb, laysOf (M ++ [O]))) none [] (.slice s5 (nm + 1) d5) (M ++ [O]) v' (endsOf 0 (M ++ [O])) w6) := Lib.hid (by
          have h := (F5.out.next ((Below.refl _ _).alloc (Nat.le_refl _) (.cells #[.int .i64 (lb : Int)] 3))).addE lb (by rw [HNE.out]; exact own') hg6 (by simpa using hw6)
          rw [endsOf_snoc, laysOf_snoc, Nat.zero_add, HLB.out]
          exact h.sub (fun p hp => by cases hp))
        obtain ⟨s6, d6, rfl⟩ := own_shape own'
        clear own' hg6 hw6 C1 C3 C4 OWN1 LEN F5
        go_wp2_with fail
        go_roundw
        case rel => exact ⟨i + 1, M ++ [O], by go_num, by omega, by omega, by rw [List.length_append, HNM.out]; simp; omega, fun q hq => (List.mem_append.1 hq).elim (HM.out q) (fun h => by rw [List.mem_singleton.1 h]; exact ⟨HMY.out, by rw [HO.out]; exact HIN.out⟩), F6.out⟩
        case measure => simp [intOf]; omega
      · have EN : Hid (∀ W, LF w (some (wb, laysOf M)) none ks (.slice sm nm cm) M (.slice se nm ce) (endsOf 0 M) W → Calls Tryd.prog 11 #[.pointer (some ⟨wb, 0, none⟩), .int .i64 X, .slice sa succ.length sc, .slice ra ref.length rc, .int .i64 R, .agg #[.int .i64 win, .int .i64 itv, .int .i64 zet]] W fun e w' => (∃ ec : Int, e = .returned (.int .i64 ec) ∧ ec ≠ 0) ∧ LF w (some (wb, laysOf M)) none ks (.slice sm nm cm) M (.slice se nm ce) (endsOf 0 M) w') := Lib.hid (fun W h => by
          have h2 := h.enc_no G.out O (by rw [HO.out]; exact HIN.out) hm
          rw [HO.out] at h2
          exact h2)
        clear hm
        go_region_held3 (fun w' => w'.cell? ⟨xb, 0, none⟩ = some (.int .i64 X) ∧ w'.cell? ⟨xb, 1, none⟩ = some (.slice sa succ.length sc) ∧ w'.cell? ⟨xb, 2, none⟩ = some (.slice ra ref.length rc) ∧ w'.cell? ⟨xb, 3, none⟩ = some (.int .i64 R) ∧ w'.cell? ⟨xb, 4, none⟩ = some (.int .i64 win) ∧ w'.cell? ⟨xb, 5, none⟩ = some (.int .i64 itv) ∧ w'.cell? ⟨xb, 6, none⟩ = some (.int .i64 zet))
          (first | exact CC.out _ _ F2.out | exact CC.out _ _ F2.out.drew | exact CC.out _ _ (by assumption) | exact CC.out _ _ (LF.drew (by assumption)))
          (first | (go_at_call 10; refine (OW.out _).mono ?_; rintro e w3 ⟨rfl, k3⟩; have h3 := (by first | exact F2.out.drew.next k3 | exact F2.out.next k3 : LF w (some (wb, laysOf M)) none ks (.slice sm nm cm) M (.slice se nm ce) (endsOf 0 M) w3)) | (go_at_call 11; refine (EN.out _ (by first | assumption | exact LF.drew (by assumption))).mono ?_; rintro e w4 ⟨⟨ec, rfl, hec⟩, h4⟩))
        have F4 : Hid (LF w (some (wb, laysOf M)) none [] (.slice sm nm cm) M (.slice se nm ce) (endsOf 0 M) w4) := Lib.hid (h4.sub (fun p hp => by cases hp))
        have i3 : (ec == 0) = false := beq_eq_false_iff_ne.2 hec
        clear h4 h3 k3 EN F2 OW hec c0 c1 c2 c3 c4 c5 c6 CC
        go_wp2_with fail
        go_roundw
        case rel => exact ⟨i + 1, M, by go_num, by omega, by omega, by rw [HNM.out]; omega, HM.out, F4.out⟩
        case measure => simp [intOf]; omega
    · go_upto_region 5 with fail
      go_cut [27] from 20 to 26 (fun v27 wd => v27 = .bool false ∧ wd = wr)
      case first =>
        by_cases hlt1 : i < n
        · have i1 : decide ((i : Int) < (n : Int)) = true := decide_eq_true (by omega)
          have i2 : decide ((i : Int) < (30 : Int)) = false := decide_eq_false (by omega)
          go_wp2_with fail
          go_meet
          case rel => exact ⟨rfl, rfl⟩
        · have i1 : decide ((i : Int) < (n : Int)) = false := decide_eq_false (by omega)
          go_wp2_with fail
          go_meet
          case rel => exact ⟨rfl, rfl⟩
      case rest =>
      obtain ⟨rfl, hwd⟩ := hcut
      subst hwd
      rename World => w2
      have TX := Lib.hid F.out.fs.text
      obtain ⟨lb, hlb⟩ : ∃ b, laysOf M = b := ⟨_, rfl⟩
      have HLB := Lib.hid hlb
      have hb9 : lb.length ≤ 134217728 := by
        obtain ⟨x, _, hw, _⟩ := F.out.fs
        obtain ⟨v, _, _, _, _, h⟩ := hw _ rfl
        rw [← hlb]
        exact h
      rw [hlb] at TX F
      have TS : Hid ((txt (packN lb)).size ≤ 1152921504606846975) := Lib.hid (by rw [txt_size, packN_length]; omega)
      have OP := Lib.hid (F.out.open _ TS.out)
      obtain ⟨R', hR'⟩ := text_back lb
      have HB : Hid (unpack (nats (txt (packN lb))) = lb ++ R') := Lib.hid hR'
      generalize txt (packN lb) = tx at TX TS OP HB
      have hnm30 : nm ≤ 30 := by omega
      clear hlb hR' hlt HN HL hin hi30
      go_wp2_with fail
      with_reducible refine TX.out.mono ?_
      rintro e w3 ⟨rfl, rfl⟩
      go_wp2_with fail
      with_reducible refine OP.out.mono ?_
      rintro e w3 ⟨rb, rfl, h3⟩
      have F3 := Lib.hid h3
      clear h3 OP TX F KB
      go_wp2_with fail
      go_loopw [12] (fun v12 wr => ∃ j : Nat, v12 = .int .i64 (j : Int) ∧ j ≤ nm ∧ LF w (some (wb, lb)) (some (rb, tx, (laysOf (M.take j)).length)) [] (.slice sm nm cm) M (.slice se nm ce) (endsOf 0 M) wr) (fun v12 _ => nm - (intOf v12).toNat)
      case atStart => exact ⟨0, rfl, Nat.zero_le _, F3.out⟩
      case round =>
        obtain ⟨j, rfl, hj9, hF⟩ := hrel
        have F := Lib.hid hF
        by_cases hlt : j < nm
        · have i1 : decide ((j : Int) < (nm : Int)) = true := decide_eq_true (by omega)
          have hjM : j < M.length := by rw [HNM.out]; exact hlt
          obtain ⟨g, cg, hv, hcg, hcells⟩ := hF.cellM j hjM
          injection hv with hv1 hv2 hv3
          subst hv1 hv3
          obtain ⟨O, hO⟩ : ∃ O, M[j] = O := ⟨_, rfl⟩
          obtain ⟨hmay, hIn⟩ := HM.out _ (List.getElem_mem hjM)
          have hlay := laysOf_at M R' j hjM
          have hend := laysOf_take M j hjM
          obtain ⟨ge, ce', hve, hce, hcelle⟩ := hF.cellE j (by rw [HNE.out]; exact hlt)
          injection hve with hve1 hve2 hve3
          subst hve1 hve3
          have hEj : (endsOf 0 M)[j]'(by rw [HNE.out]; exact hlt) = (laysOf (M.take (j + 1))).length := by
            have h := endsOf_get M 0 j hjM
            rw [List.getElem?_eq_getElem (by rw [HNE.out]; exact hlt), Nat.zero_add] at h
            injection h
          rw [hEj] at hcelle
          rw [hO, Nat.mul_comm] at hcells
          rw [hO] at hmay hIn hlay hend
          rw [HLB.out, ← HB.out] at hlay
          obtain ⟨a, haa⟩ : ∃ k, (laysOf (M.take j)).length = k := ⟨_, rfl⟩
          obtain ⟨a2, haa2⟩ : ∃ k, (laysOf (M.take (j + 1))).length = k := ⟨_, rfl⟩
          rw [haa] at F hF hlay hend
          rw [haa2] at hend hcelle hEj
          have HEJ := Lib.hid hEj
          have HA2 := Lib.hid haa2
          obtain ⟨X, sa, succ, sc, ra, ref, rc, R, win, itv, zet⟩ := O
          obtain ⟨hX, hR, hwi, hit, hze, hN⟩ := One.nat hmay
          unfold One.pr at hwi hit hze hN
          dsimp only at hX hR hwi hit hze hN
          obtain ⟨x, rfl⟩ : ∃ x : Nat, X = (x : Int) := ⟨_, hX⟩
          obtain ⟨r, rfl⟩ : ∃ x : Nat, R = (x : Int) := ⟨_, hR⟩
          obtain ⟨win, rfl⟩ : ∃ x : Nat, win = (x : Int) := ⟨_, hwi⟩
          obtain ⟨itv, rfl⟩ : ∃ x : Nat, itv = (x : Int) := ⟨_, hit⟩
          obtain ⟨zet, rfl⟩ : ∃ x : Nat, zet = (x : Int) := ⟨_, hze⟩
          simp only [Int.toNat_natCast] at hN
          have hlo : (⟨x, sa, succ, sc, ra, ref, rc, r, win, itv, zet⟩ : One).lay = lay x succ ref r ⟨win, itv, zet⟩ := by
            unfold One.lay One.pr
            simp only [Int.toNat_natCast]
          rw [hlo] at hlay hend
          have hIn1 : LV w sa succ := hIn.1
          have hIn2 : succ.length ≤ sc := hIn.2.1
          have hIn3 : LV w ra ref := hIn.2.2.1
          have hIn4 : ref.length ≤ rc := hIn.2.2.2
          have e0 := hcells 0 (by decide)
          have e1 := hcells 1 (by decide)
          have e2 := hcells 2 (by decide)
          have e3 := hcells 3 (by decide)
          have e4 := hcells 4 (by decide)
          have e5 := hcells 5 (by decide)
          have e6 := hcells 6 (by decide)
          unfold One.cells at e0 e1 e2 e3 e4 e5 e6
          rw [Nat.add_zero] at e0
          dsimp only at e0 e1 e2 e3 e4 e5 e6
          have HDL := hread_lay hN hlay
          have HDC := dec_lay hN hlay
          obtain ⟨hl, hhl⟩ : ∃ k, a + (bitsOf (hdN succ r ⟨win, itv, zet⟩)).length = k := ⟨_, rfl⟩
          obtain ⟨rr, hrr⟩ : ∃ k, (if succ = [] then 0 else r) = k := ⟨_, rfl⟩
          rw [hhl, hrr] at HDL HDC
          rw [← hend] at HDC
          have HD := Lib.hid HDL.1
          have HC := Lib.hid HDC
          have HMN := Lib.hid hN
          have hHE : hread win (unpack (nats tx)) a = some (succ.length, rr, hl) := HDL.1
          have hRR : succ ≠ [] → rr = r := fun h => by rw [← hrr, if_neg h]
          have HRR := Lib.hid hRR
          have hrw : rr ≤ win := by
            rw [← hrr]
            split
            · exact Nat.zero_le _
            · exact hN.2.2.2.2.1
          have hwin : win ≤ 16 := hN.1.1
          have hx6 : x < 65536 := hN.2.1
          obtain ⟨ls, hls⟩ : ∃ k, succ.length = k := ⟨_, rfl⟩
          have HLS := Lib.hid hls
          rw [hls] at e1 hHE
          have f4 := F.out.add #[.int .i64 (x : Int), .slice sa ls sc, .slice ra ref.length rc, .int .i64 (r : Int), .int .i64 (win : Int), .int .i64 (itv : Int), .int .i64 (zet : Int)] 33
          have HI := Lib.hid (And.intro hIn1 (And.intro hIn2 (And.intro hIn3 hIn4)))
          clear hv2 hcells hve2 hEj hO hmay hIn hX hR hwi hit hze hlo hIn1 hIn2 hIn3 hIn4 HDL HDC hlay hend haa haa2 hhl hrr hRR hF hls
          go_upto_region 18 with fail
          obtain ⟨vmv, hvmv⟩ : ∃ v, v = Value.slice (some ⟨g, 0, none⟩) nm cm := ⟨_, rfl⟩
          obtain ⟨vev, hvev⟩ : ∃ v, v = Value.slice (some ⟨ge, 0, none⟩) nm ce := ⟨_, rfl⟩
          have HVM := Lib.hid hvmv
          have HVE := Lib.hid hvev
          rw [← hvmv, ← hvev] at f4
          obtain ⟨xb, hxb⟩ : ∃ z, wr.heap.size = z := ⟨_, rfl⟩
          obtain ⟨kx, hkx⟩ : ∃ k, (xb, Obj.cells #[.int .i64 (x : Int), .slice sa ls sc, .slice ra ref.length rc, .int .i64 (r : Int), .int .i64 (win : Int), .int .i64 (itv : Int), .int .i64 (zet : Int)] 33 (0, 0)) = k := ⟨_, rfl⟩
          rw [hxb, hkx] at f4
          rw [hxb]
          have XC : Hid (∀ W o ks, LF w (some (wb, lb)) o ks vmv M vev (endsOf 0 M) W → kx ∈ ks → W.cell? ⟨xb, 0, none⟩ = some (.int .i64 (x : Int)) ∧ W.cell? ⟨xb, 1, none⟩ = some (.slice sa ls sc) ∧ W.cell? ⟨xb, 2, none⟩ = some (.slice ra ref.length rc) ∧ W.cell? ⟨xb, 3, none⟩ = some (.int .i64 (r : Int)) ∧ W.cell? ⟨xb, 4, none⟩ = some (.int .i64 (win : Int)) ∧ W.cell? ⟨xb, 5, none⟩ = some (.int .i64 (itv : Int)) ∧ W.cell? ⟨xb, 6, none⟩ = some (.int .i64 (zet : Int))) := Lib.hid (fun W o ks h hm => by
            rw [← hkx] at hm
            have r := h.row hm
            exact ⟨by rw [cell_of_row _ _ _ _ _ _ r]; rfl, by rw [cell_of_row _ _ _ _ _ _ r]; rfl, by rw [cell_of_row _ _ _ _ _ _ r]; rfl, by rw [cell_of_row _ _ _ _ _ _ r]; rfl, by rw [cell_of_row _ _ _ _ _ _ r]; rfl, by rw [cell_of_row _ _ _ _ _ _ r]; rfl, by rw [cell_of_row _ _ _ _ _ _ r]; rfl⟩)
          have HEAD : Hid (∀ W, LF w (some (wb, lb)) (some (rb, tx, a)) [kx] vmv M vev (endsOf 0 M) W → Calls Tryd.prog 21 #[.pointer (some ⟨rb, 0, none⟩), .agg #[.int .i64 (win : Int), .int .i64 (itv : Int), .int .i64 (zet : Int)]] W fun e w' => e = .returned (.tuple #[.agg #[.int .i64 (ls : Int), .int .i64 (rr : Int)], .int .i64 0]) ∧ LF w (some (wb, lb)) (some (rb, tx, hl)) [kx] vmv M vev (endsOf 0 M) w') := Lib.hid (fun W h => by
            have h2 := h.head G.out ⟨win, itv, zet⟩ hN.1
            dsimp only at h2
            rw [hHE] at h2
            exact h2)
          have OW := Lib.hid (fun W => pown_any (win : Int) (itv : Int) (zet : Int) W)
          generalize World.alloc wr _ = w4 at f4 ⊢
          have F4 := Lib.hid f4
          obtain ⟨c0, c1, c2, c3, c4, c5, c6⟩ := XC.out _ _ _ f4 (List.mem_cons_self ..)
          clear hkx hvmv hvev hxb f4 e0 e1 e2 e3 e4 e5 e6 hN hHE HD hcelle F
          go_wp2_with fail
          with_reducible refine (OW.out _).mono ?_
          rintro e w5 ⟨rfl, k5⟩
          have HH := Lib.hid (HEAD.out _ (F4.out.next k5))
          clear c0 c1 c2 c3 c4 c5 c6 k5 F4 HEAD
          go_wp2_with fail
          with_reducible refine HH.out.mono ?_
          rintro e w6 ⟨rfl, h6⟩
          have f7 := h6.add #[.int .i64 (ls : Int), .int .i64 (rr : Int)] 55
          clear HH h6
          go_upto_region 19 with fail
          obtain ⟨hb, hhb⟩ : ∃ z, w6.heap.size = z := ⟨_, rfl⟩
          obtain ⟨kh, hkh⟩ : ∃ k, (hb, Obj.cells #[.int .i64 (ls : Int), .int .i64 (rr : Int)] 55 (0, 0)) = k := ⟨_, rfl⟩
          rw [hhb, hkh] at f7
          rw [hhb]
          have HCL : Hid (∀ W o ks, LF w (some (wb, lb)) o ks vmv M vev (endsOf 0 M) W → kh ∈ ks → W.cell? ⟨hb, 0, none⟩ = some (.int .i64 (ls : Int)) ∧ W.cell? ⟨hb, 1, none⟩ = some (.int .i64 (rr : Int))) := Lib.hid (fun W o ks h hm => by
            rw [← hkh] at hm
            have r := h.row hm
            exact ⟨by rw [cell_of_row _ _ _ _ _ _ r]; rfl, by rw [cell_of_row _ _ _ _ _ _ r]; rfl⟩)
          generalize World.alloc w6 _ = w7 at f7 ⊢
          have F7 := Lib.hid f7
          have CC : Hid (∀ W o, LF w (some (wb, lb)) o [kh, kx] vmv M vev (endsOf 0 M) W → (W.cell? ⟨xb, 0, none⟩ = some (.int .i64 (x : Int)) ∧ W.cell? ⟨xb, 1, none⟩ = some (.slice sa ls sc) ∧ W.cell? ⟨xb, 2, none⟩ = some (.slice ra ref.length rc) ∧ W.cell? ⟨xb, 3, none⟩ = some (.int .i64 (r : Int)) ∧ W.cell? ⟨xb, 4, none⟩ = some (.int .i64 (win : Int)) ∧ W.cell? ⟨xb, 5, none⟩ = some (.int .i64 (itv : Int)) ∧ W.cell? ⟨xb, 6, none⟩ = some (.int .i64 (zet : Int))) ∧ (W.cell? ⟨hb, 0, none⟩ = some (.int .i64 (ls : Int)) ∧ W.cell? ⟨hb, 1, none⟩ = some (.int .i64 (rr : Int)))) := Lib.hid (fun W o h => ⟨XC.out _ _ _ h (List.mem_cons_of_mem _ (List.mem_cons_self ..)), HCL.out _ _ _ h (List.mem_cons_self ..)⟩)
          obtain ⟨⟨c0, c1, c2, c3, c4, c5, c6⟩, d0, d1⟩ := CC.out _ _ f7
          clear f7 hhb hkh XC HCL
          have RF : ∃ (ar : Option Addr) (rf : List Nat) (rcc : Nat), (rr = 0 → ar = none ∧ rf = [] ∧ rcc = 0) ∧ (rr ≠ 0 → ar = ra ∧ rf = ref ∧ rcc = rc) := by
            by_cases h : rr = 0
            · exact ⟨none, [], 0, fun _ => ⟨rfl, rfl, rfl⟩, fun h2 => absurd h h2⟩
            · exact ⟨ra, ref, rc, fun h2 => absurd h2 h, fun _ => ⟨rfl, rfl, rfl⟩⟩
          obtain ⟨ar, rf, rcc, hrf0, hrf1⟩ := RF
          have HRF := Lib.hid (And.intro hrf0 hrf1)
          have DD : Hid (∀ W, LF w (some (wb, lb)) (some (rb, tx, hl)) [kh, kx] vmv M vev (endsOf 0 M) W → Calls Tryd.prog 22 #[.pointer (some ⟨rb, 0, none⟩), .int .i64 (x : Int), .int .i64 65536, .agg #[.int .i64 (ls : Int), .int .i64 (rr : Int)], .slice ar rf.length rcc, .agg #[.int .i64 (win : Int), .int .i64 (itv : Int), .int .i64 (zet : Int)]] W fun e w' => (∃ v, e = .returned (.tuple #[v, .int .i64 0]) ∧ w'.ownsRow 0 60 1 v ls (u32V succ)) ∧ LF w (some (wb, lb)) (some (rb, tx, a2)) [kh, kx] vmv M vev (endsOf 0 M) w') := Lib.hid (fun W h => by
            have hk : rf.length ≤ rcc ∧ Ris rf ∧ (0 < rr ∨ rf = []) ∧ LV w ar rf := by
              by_cases h : rr = 0
              · obtain ⟨rfl, rfl, rfl⟩ := hrf0 h
                exact ⟨Nat.le_refl _, ⟨List.Pairwise.nil, fun v hv => (by cases hv)⟩, .inr rfl, LV.nil⟩
              · obtain ⟨rfl, rfl, rfl⟩ := hrf1 h
                exact ⟨HI.out.2.2.2, HMN.out.2.2.2.1, .inl (by omega), HI.out.2.2.1⟩
            have h3 := h.decode G.out x 65536 succ.length rr ⟨win, itv, zet⟩ hx6 (Nat.le_refl _) HMN.out.2.2.1.len hrw HMN.out.1 ar rf rcc hk.1 hk.2.1 hk.2.2.1 hk.2.2.2 (succ, a2) (HC.out rf (fun h => (hrf0 h).2.1) (fun h => (hrf1 h).2.1))
            dsimp only at h3
            rw [HLS.out] at h3
            exact h3)
          clear hrf0 hrf1
          go_upto_if 87 with fail
          go_cut [16] from 85 to 87 (fun v16 wd => v16 = .slice ar rf.length rcc ∧ wd = w7)
          case first =>
            by_cases h : rr = 0
            · obtain ⟨rfl, rfl, rfl⟩ := HRF.out.1 h
              have i2 : ((rr : Int) == 0) = true := by rw [h]; rfl
              clear DD h
              go_wp2_with fail
              go_meet
              case rel => exact ⟨rfl, rfl⟩
            · obtain ⟨rfl, rfl, rfl⟩ := HRF.out.2 h
              have i2 : ((rr : Int) == 0) = false := beq_eq_false_iff_ne.2 (by omega)
              clear DD h
              go_wp2_with fail
              go_meet
              case rel => exact ⟨rfl, rfl⟩
          case rest =>
          obtain ⟨rfl, hwd⟩ := hcut
          subst hwd
          rename World => w8
          go_upto_region 22 with fail
          go_region_held3 (fun W => (W.cell? ⟨xb, 0, none⟩ = some (.int .i64 (x : Int)) ∧ W.cell? ⟨xb, 1, none⟩ = some (.slice sa ls sc) ∧ W.cell? ⟨xb, 2, none⟩ = some (.slice ra ref.length rc) ∧ W.cell? ⟨xb, 3, none⟩ = some (.int .i64 (r : Int)) ∧ W.cell? ⟨xb, 4, none⟩ = some (.int .i64 (win : Int)) ∧ W.cell? ⟨xb, 5, none⟩ = some (.int .i64 (itv : Int)) ∧ W.cell? ⟨xb, 6, none⟩ = some (.int .i64 (zet : Int))) ∧ (W.cell? ⟨hb, 0, none⟩ = some (.int .i64 (ls : Int)) ∧ W.cell? ⟨hb, 1, none⟩ = some (.int .i64 (rr : Int))))
            (first | exact CC.out _ _ F7.out | exact CC.out _ _ F7.out.drew | exact CC.out _ _ (by assumption) | exact CC.out _ _ (LF.drew (by assumption)))
            (first | (go_at_call 10; refine (OW.out _).mono ?_; rintro e w9 ⟨rfl, k9⟩; have h9 := (by first | exact F7.out.drew.next k9 | exact F7.out.next k9 : LF w (some (wb, lb)) (some (rb, tx, hl)) [kh, kx] vmv M vev (endsOf 0 M) w9)) | (go_at_call 22; refine (DD.out _ (by first | assumption | exact LF.drew (by assumption))).mono ?_; rintro e w10 ⟨⟨v, rfl, hrow⟩, h10⟩))
          have F10 := Lib.hid h10
          obtain ⟨av, cv, hv, hcv, hLVv⟩ := lv_own (by have := HMN.out.2.2.1.len; omega) (fun u hu => by have := HMN.out.2.2.1.2 u hu; omega) (HLS.out.symm ▸ hrow)
          rw [HLS.out] at hv hcv
          subst hv
          have SM : Hid (∀ W, Below w10.heap.size w10 W → Calls Tryd.prog 23 #[.slice av ls cv, .slice sa ls sc] W fun e w' => e = .returned (.bool true) ∧ Below W.heap.size W w') := Lib.hid (fun W k => by
            have h := same_any W av succ cv sa succ sc (HLS.out.symm ▸ hcv) HI.out.2.1 (hLVv.below k) ((HI.out.1.below F10.out.below).below k)
            rw [decide_eq_true rfl, HLS.out] at h
            exact h)
          have EC : Hid (∀ W o ks, LF w (some (wb, lb)) o ks vmv M vev (endsOf 0 M) W → W.cell? ⟨ge, j, none⟩ = some (.int .i64 (a2 : Int))) := Lib.hid (fun W o ks h => by
            obtain ⟨ge', ce', hve, _, hcell⟩ := h.cellE j (by rw [HNE.out]; exact hlt)
            rw [HVE.out] at hve
            injection hve with hve _ _
            injection hve with hve
            injection hve with hve _
            subst hve
            rw [HEJ.out] at hcell
            exact hcell)
          have ATT : Hid (∀ W, LF w (some (wb, lb)) (some (rb, tx, a2)) [kh, kx] vmv M vev (endsOf 0 M) W → Calls Tryd.prog 24 #[.pointer (some ⟨rb, 0, none⟩)] W fun e w' => e = .returned (.int .i64 (a2 : Int)) ∧ W = w') := Lib.hid (fun W h => h.at_)
          clear c0 c1 c2 c3 c4 c5 c6 d0 d1
          have hls0 : 0 < ls → succ ≠ [] := fun h e => by have := HLS.out; rw [e] at this; simp at this; omega
          obtain ⟨⟨c0, c1, c2, c3, c4, c5, c6⟩, d0, d1⟩ := CC.out _ _ h10
          have ec := EC.out _ _ _ h10
          clear hrow hLVv h10 h9 k9 DD OW F7
          have i2 : ((ls : Int) != (ls : Int)) = false := by simp
          by_cases hs0 : 0 < ls
          · --B
            have i3 : decide ((0 : Int) < (ls : Int)) = true := decide_eq_true (by omega)
            have i3n : decide (0 < ls) = true := decide_eq_true hs0
            have hrrr : rr = r := HRR.out (hls0 hs0)
            have i4 : ((rr : Int) != (r : Int)) = false := by simp [hrrr]
            clear hs0 hrrr hls0
            go_upto_region 23 with fail
            go_region_held3 (fun W => ((W.cell? ⟨xb, 0, none⟩ = some (.int .i64 (x : Int)) ∧ W.cell? ⟨xb, 1, none⟩ = some (.slice sa ls sc) ∧ W.cell? ⟨xb, 2, none⟩ = some (.slice ra ref.length rc) ∧ W.cell? ⟨xb, 3, none⟩ = some (.int .i64 (r : Int)) ∧ W.cell? ⟨xb, 4, none⟩ = some (.int .i64 (win : Int)) ∧ W.cell? ⟨xb, 5, none⟩ = some (.int .i64 (itv : Int)) ∧ W.cell? ⟨xb, 6, none⟩ = some (.int .i64 (zet : Int))) ∧ (W.cell? ⟨hb, 0, none⟩ = some (.int .i64 (ls : Int)) ∧ W.cell? ⟨hb, 1, none⟩ = some (.int .i64 (rr : Int)))) ∧ W.cell? ⟨ge, j, none⟩ = some (.int .i64 (a2 : Int)))
              (first | exact ⟨CC.out _ _ F10.out, EC.out _ _ _ F10.out⟩ | exact ⟨CC.out _ _ F10.out.drew, EC.out _ _ _ F10.out.drew⟩ | exact ⟨CC.out _ _ (by assumption), EC.out _ _ _ (by assumption)⟩ | exact ⟨CC.out _ _ (LF.drew (by assumption)), EC.out _ _ _ (LF.drew (by assumption))⟩)
              (first | (go_at_call 23; refine (SM.out _ (by first | exact Below.refl _ _ | exact Below.drew (Below.refl _ _))).mono ?_; rintro e w11 ⟨rfl, k11⟩; have h11 := (by first | exact F10.out.drew.next k11 | exact F10.out.next k11 : LF w (some (wb, lb)) (some (rb, tx, a2)) [kh, kx] vmv M vev (endsOf 0 M) w11)) | (go_at_call 24; refine (ATT.out _ (by first | assumption | exact LF.drew (by assumption))).mono ?_; rintro e w12 ⟨rfl, rfl⟩))
            have NX : Hid (LF w (some (wb, lb)) (some (rb, tx, (laysOf (M.take (j + 1))).length)) [] (.slice (some ⟨g, 0, none⟩) nm cm) M (.slice (some ⟨ge, 0, none⟩) nm ce) (endsOf 0 M) w11) := Lib.hid (by
              rw [HA2.out, ← HVM.out, ← HVE.out]
              exact h11.sub (fun p hp => by cases hp))
            clear h11 k11 CC SM EC ATT c0 c1 c2 c3 c4 c5 c6 d0 d1 ec
            go_wp2_with fail
            go_roundw
            case rel => exact ⟨j + 1, by go_num, by omega, NX.out⟩
            case measure => simp [intOf]; omega
          · obtain rfl : ls = 0 := by omega
            have SN := Lib.hid (fun W => same_nil W av cv sa sc)
            clear hs0 hls0 SM
            go_upto_region 23 with fail
            go_quiet (first
              | (go_at_call 23; with_reducible exact Calls.quiet_of_same ((SN.out _).mono (fun e w' h => ⟨h.1, h.2.symm⟩)))
              | (go_at_call 24; with_reducible exact Calls.quiet_of_same ((ATT.out _ (F10.out.drewN _)).mono (fun e w' h => ⟨h.1, h.2.symm⟩)))
              | fail)
            have NX : Hid (LF w (some (wb, lb)) (some (rb, tx, (laysOf (M.take (j + 1))).length)) [] (.slice (some ⟨g, 0, none⟩) nm cm) M (.slice (some ⟨ge, 0, none⟩) nm ce) (endsOf 0 M) (w10.drewN nq)) := Lib.hid (by
              rw [HA2.out, ← HVM.out, ← HVE.out]
              exact (F10.out.drewN nq).sub (fun p hp => by cases hp))
            clear F10 CC EC ATT c0 c1 c2 c3 c4 c5 c6 d0 d1 ec
            go_wp2_with fail
            go_roundw
            case rel => exact ⟨j + 1, by go_num, by omega, NX.out⟩
            case measure => simp [intOf]; omega
        · have i1 : decide ((j : Int) < (nm : Int)) = false := decide_eq_false (by omega)
          have AW2 := Lib.hid (AW.out _ hF.below)
          have KB := Lib.hid hF.below
          clear hF
          go_wp2_with fail
          with_reducible refine AW2.out.mono ?_
          rintro e w4 ⟨rfl, k4⟩
          have K := Lib.hid (KB.out.trans (k4.mono KB.out.size))
          clear k4 AW2
          go_wp2_with fail
          go_ret
          exact ⟨rfl, K.out⟩
end Go.Proofs.YtflnpcgnenhogaaDoor.ls

namespace Go.Proofs.YtflnpcgnenhogaaDoor.ls
open Go.ChangeShapes Go.WideShapes Go.ChangeAt Go.RowKit

theorem int_of_trod {H : Type} {enc : TypeId × Value → H} {P : Program} {w : World} {base : Nat} {sp : Nat → Bool} {held : Bool} {fuel : Nat} {t : TypeId} {k : IntKind} {c : Value} {y : DataW H × List MemPlace}
    (ht : P.underlying t = some (.int k)) (h : DataW.trod enc P w base sp held fuel t [c] = some y) : ∃ n, c = .int k n ∧ y = (.lit (.int k n), []) := by
  cases fuel with
  | zero => simp [DataW.trod] at h
  | succ fuel =>
    cases c <;> simp [DataW.trod, ht] at h
    rename_i k' n
    obtain ⟨⟨rfl, _⟩, rfl⟩ := h
    exact ⟨n, rfl, rfl⟩

theorem bytesU32 : Tryd.prog.bytesOf 60 = 4 := by kernel_rfl
theorem cellsU32 : Tryd.prog.cellsOf 60 = 1 := by kernel_rfl
/-- numbers that came in, opened -/
theorem u32_open {H : Type} {enc : TypeId × Value → H} {W : World} {a : Option Addr} {len cap : Nat} {d : DataW H} {p : List MemPlace}
    (h : DataW.Trod enc Tryd.prog W 0 (fun _ => true) true 29 (.slice a len cap) d p) (hs : ∀ e s, d = .slice e s → e.length + s.length ≤ 4611686018427387903) : ∃ l : List Nat, l.length = len ∧ len ≤ cap ∧ LV W a l := by
  obtain ⟨fuel, hf⟩ := h
  rcases open_ints Tryd.underlying29 Tryd.underlying60 cellsU32 hf with ⟨hcs, _⟩ | ⟨x, len', cap', zs, hcs, _, hl, hm, hz, hd, hc, hw⟩
  · simp [Value.cells] at hcs
    obtain ⟨rfl, rfl, rfl⟩ := hcs
    exact ⟨[], rfl, Nat.le_refl _, Nat.zero_le _, fun j hj => by cases hj⟩
  · simp [Value.cells] at hcs
    obtain ⟨rfl, rfl, rfl⟩ := hcs
    have hz : zs.length = cap := by simpa using hz
    have ln : ((zs.take len).map Int.toNat).length = len := by rw [List.length_map, List.length_take]; omega
    have hl9 : len ≤ 4611686018427387903 := by
      have h9 := hs _ _ (congrArg Prod.fst hd)
      simp [lits] at h9
      omega
    refine ⟨(zs.take len).map Int.toNat, ln, hl, by rw [ln]; exact hl9, fun j hj => ?_⟩
    rw [ln] at hj
    have g0 := hc j (by omega)
    obtain ⟨b, o, sp⟩ := x
    have hsp := World.cell?_spot g0
    have hsp : sp = none := by
      by_cases hj0 : j = 0
      · subst hj0; simpa [Addr.add] using hsp
      · have g1 := hc 0 (by omega)
        have := World.cell?_spot g1
        simpa [Addr.add] using this
    subst hsp
    have e : zs.getD j 0 = zs[j]'(by omega) := by rw [List.getD_eq_getElem?_getD, List.getElem?_eq_getElem (by omega)]; rfl
    have g1 : W.cell? ⟨b, o + j, none⟩ = some (.int .u32 (zs[j]'(by omega))) := by rw [Addr.add_lit, e] at g0; exact g0
    have hwf := hw (zs[j]'(by omega)) (List.getElem_mem _)
    simp [Lit.wf] at hwf
    obtain ⟨q1, q2⟩ := hwf
    have e1 : IntKind.u32.min = 0 := by decide
    have e2 : IntKind.u32.max = 4294967295 := by decide
    rw [e1] at q1
    rw [e2] at q2
    refine ⟨b, o, rfl, World.block_lt_of_cell? W _ g1, ?_, ?_⟩
    · rw [g1]
      simp only [List.getElem_map, List.getElem_take]
      rw [Int.toNat_of_nonneg q1]
    · simp only [List.getElem_map, List.getElem_take]
      omega


theorem weights_all {H : Type} {P : Program} {e : TypeId} : ∀ {l : List (DataW H)} {d : DataW H}, d ∈ l → ∀ n ∈ d.weights P e, n ∈ DataW.weightsAll P e l
  | a :: l, d, hd, n, hn => by
    simp only [DataW.weightsAll, List.mem_append]
    rcases List.mem_cons.1 hd with rfl | hd
    · exact .inl hn
    · exact .inr (weights_all hd n hn)
theorem c_one : Tryd.prog.cellsOf 33 = 7 := by kernel_rfl
theorem c_par : Tryd.prog.cellsOf 31 = 3 := by kernel_rfl
theorem c_u32s : Tryd.prog.cellsOf 29 = 1 := by kernel_rfl
theorem c_int : Tryd.prog.cellsOf 3 = 1 := by kernel_rfl
theorem b_one : Tryd.prog.bytesOf 33 = 88 := by kernel_rfl
/-- a list in a cell that came in -/
theorem u32s_open {H : Type} {enc : TypeId × Value → H} {W : World} {fuel : Nat} {v : Value} {y : DataW H × List MemPlace} (h : DataW.trod enc Tryd.prog W 0 (fun _ => true) true fuel 29 [v] = some y) (hs : ∀ n ∈ y.1.weights Tryd.prog 29, n ≤ reachBytes) :
    ∃ (a : Option Addr) (l : List Nat) (cap : Nat), v = .slice a l.length cap ∧ l.length ≤ cap ∧ LV W a l := by
  have hv : ∃ a len cap, v = .slice a len cap := by
    rcases open_ints Tryd.underlying29 Tryd.underlying60 cellsU32 h with ⟨hcs, _⟩ | ⟨x, len', cap', zs, hcs, _⟩
    · injection hcs with hcs _
      exact ⟨_, _, _, hcs⟩
    · injection hcs with hcs _
      exact ⟨_, _, _, hcs⟩
  obtain ⟨a, len, cap, rfl⟩ := hv
  have hT : DataW.Trod enc Tryd.prog W 0 (fun _ => true) true 29 (.slice a len cap) y.1 y.2 := ⟨fuel, h⟩
  obtain ⟨l, rfl, h2, h3⟩ := u32_open hT (fun e s he => by
    have h9 := hs ((e.length + s.length) * Tryd.prog.bytesOf 60) (by rw [he]; simp [DataW.weights, Tryd.underlying29])
    rw [bytesU32] at h9
    have := reachBytes_lt
    omega)
  exact ⟨a, l, cap, rfl, h2, h3⟩
set_option maxRecDepth 100000 in
/-- Ones that came in, opened -/
theorem ones_open {H : Type} {enc : TypeId × Value → H} {W : World} {a : Option Addr} {len cap : Nat} {d : DataW H} {p : List MemPlace} (h : DataW.Trod enc Tryd.prog W 0 (fun _ => true) true 22 (.slice a len cap) d p)
    (hs : ∀ n ∈ d.weights Tryd.prog 22, n ≤ reachBytes) : ∃ L : List One, L.length = len ∧ len ≤ cap ∧ len ≤ 4611686018427387903 ∧ OL W a L := by
  obtain ⟨fuel, hf⟩ := h
  rcases DataW.trod_slice Tryd.underlying22 hf with ⟨hcs, _⟩ | ⟨ad, l', c', elems, rest, n, _, hcs, hx, hb, hl, hm, hlen, hel, _, _⟩
  · simp [Value.cells] at hcs
    obtain ⟨rfl, rfl, rfl⟩ := hcs
    exact ⟨[], rfl, Nat.le_refl _, Nat.zero_le _, fun k hk => by simp at hk⟩
  · simp [Value.cells] at hcs
    obtain ⟨rfl, rfl, rfl⟩ := hcs
    obtain ⟨hd, _⟩ := Prod.mk.inj hx
    subst hd
    rw [DataW.weights, Tryd.underlying22] at hs
    have hl6 : len ≤ 4611686018427387903 := by
      have h9 := hs _ (List.mem_cons_self ..)
      rw [b_one, List.length_map, hlen] at h9
      have := reachBytes_lt
      have e : (2 : Nat) ^ 47 = 140737488355328 := by decide
      have h3 : len * 88 ≤ (len + (rest.map (·.1)).length) * 88 := Nat.mul_le_mul_right _ (Nat.le_add_right _ _)
      omega
    have each : ∀ i : Nat, ∃ o : One, i < len → (∀ k, k < 7 → W.cell? (ad.add (i * 7 + k)) = o.cells[k]?) ∧ o.In W := by
      intro i
      by_cases hi : i < len
      · have he := hel i hi
        rw [c_one, List.getElem?_eq_getElem (by omega), Option.bind_eq_some_iff] at he
        obtain ⟨cs, hc, ht⟩ := he
        obtain ⟨_, hcl, hcell⟩ := World.cells?_some hc
        have hw : ∀ n ∈ (elems[i]'(by omega)).1.weights Tryd.prog 33, n ≤ reachBytes := fun n hn => hs n (List.mem_cons_of_mem _ (List.mem_append_left _ (weights_all (List.mem_map_of_mem (List.getElem_mem _)) n hn)))
        obtain ⟨xs, m, _, hx, _, hxl, hg⟩ := DataW.trod_struct Tryd.underlying33 ht
        rw [hx, DataW.weights, Tryd.underlying33] at hw
        match cs, hcl with
        | [v0, v1, v2, v3, v4, v5, v6], _ =>
          match xs, hxl with
          | [y0, y1, y2, y3, y4], _ =>
            have h0 := hg 0 _ rfl
            have h1 := hg 1 _ rfl
            have h2 := hg 2 _ rfl
            have h3 := hg 3 _ rfl
            have h4 := hg 4 _ rfl
            simp [c_u32s, c_int, c_par] at h0 h1 h2 h3 h4
            obtain ⟨X, rfl, _⟩ := int_of_trod Tryd.underlying3 h0
            obtain ⟨R, rfl, _⟩ := int_of_trod Tryd.underlying3 h3
            obtain ⟨sa, succ, sc, rfl, hs1, hs2⟩ := u32s_open h1 (fun n hn => hw n (DataW.weights_mem_each (j := 1) rfl rfl n hn))
            obtain ⟨ra, ref, rc, rfl, hr1, hr2⟩ := u32s_open h2 (fun n hn => hw n (DataW.weights_mem_each (j := 2) rfl rfl n hn))
            obtain ⟨xs4, m4, _, _, _, hx4, hg4⟩ := DataW.trod_struct Tryd.underlying31 h4
            match xs4, hx4 with
            | [z0, z1, z2], _ =>
              have k0 := hg4 0 _ rfl
              have k1 := hg4 1 _ rfl
              have k2 := hg4 2 _ rfl
              simp [c_int] at k0 k1 k2
              obtain ⟨win, rfl, _⟩ := int_of_trod Tryd.underlying3 k0
              obtain ⟨itv, rfl, _⟩ := int_of_trod Tryd.underlying3 k1
              obtain ⟨zet, rfl, _⟩ := int_of_trod Tryd.underlying3 k2
              refine ⟨⟨X, sa, succ, sc, ra, ref, rc, R, win, itv, zet⟩, fun _ => ⟨fun k hk => ?_, hs2, hs1, hr2, hr1⟩⟩
              have h9 := hcell k (by simpa using hk)
              rw [show ad.add (i * 7 + k) = (ad.add (i * 7)).add k from by
                unfold Addr.add
                by_cases q1 : i * 7 = 0 <;> by_cases q2 : k = 0 <;> simp [q1, q2, Nat.add_assoc]]
              exact h9
      · exact ⟨⟨0, none, [], 0, none, [], 0, 0, 0, 0, 0⟩, fun h => absurd h hi⟩
    obtain ⟨f, hff⟩ := Classical.axiomOfChoice each
    refine ⟨(List.range len).map f, by simp, hl, hl6, fun i hi => ?_⟩
    have hi' : i < len := by simpa using hi
    obtain ⟨h1, h2⟩ := hff i hi'
    obtain ⟨g, o, s⟩ := ad
    have h0 := (hff 0 (by omega)).1 0 (by decide)
    have hsn : s = none := by
      have := World.cell?_spot (h0.trans (by rfl))
      simpa [Addr.add] using this
    subst hsn
    have hc : ∀ k, k < 7 → W.cell? ⟨g, o + 7 * i + k, none⟩ = (f i).cells[k]? := fun k hk => by
      have := h1 k hk
      rw [Addr.add_lit] at this
      rw [← this]
      congr 2
      omega
    refine ⟨g, o, rfl, World.block_lt_of_cell? _ _ ((hc 0 (by decide)).trans rfl), fun k hk => ?_, ?_⟩
    · rw [hc k hk]
      simp
    · simpa using h2
end Go.Proofs.YtflnpcgnenhogaaDoor.ls
