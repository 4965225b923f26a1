/- pack: the document's ReadHead. -/
import Derived.Test.YthaicpbdlhkkkaaGreatDoorPkL
namespace Go.Proofs.YthaicpbdlhkkkaaGreatDoor.pk
open Go.RowKit Go.Proofs.YthaicpbdlhkkkaaGreatDoor.own Go.Proofs.YthaicpbdlhkkkaaGreatDoor.bit Go.Proofs.YthaicpbdlhkkkaaGreatDoor.ef

theorem nats_extract (s : ByteArray) (a b : Nat) : nats (s.extract a b) = ((nats s).drop a).take (b - a) := by
  unfold nats
  rw [Lib.extract_data]
  simp [List.map_take, List.map_drop]
theorem extract_size (s : ByteArray) (a b : Nat) (h : b ≤ s.size) (hab : a ≤ b) : (s.extract a b).size = b - a := by
  rw [← nats_length, nats_extract, List.length_take, List.length_drop, nats_length]
  omega

/-- the number in k bytes from a place on -/
def fld (s : ByteArray) (a k : Nat) : Nat := val (((nats s).drop a).take k)
theorem fld_one (s : ByteArray) (a : Nat) (h : a < s.size) : fld s a 1 = s[a].toNat := by
  have ha : a < (nats s).length := by rw [nats_length]; exact h
  unfold fld
  rw [List.drop_eq_getElem_cons ha]
  simp [val, nats_at s a h ha]
theorem fld_lt (s : ByteArray) (a k : Nat) : fld s a k < 256 ^ k := by
  refine Nat.lt_of_lt_of_le (val_lt _ fun b hb => nats_lt s b (List.mem_of_mem_drop (List.mem_of_mem_take hb))) ?_
  exact Nat.pow_le_pow_right (by decide) (by rw [List.length_take]; omega)
def markT : ByteArray := ⟨#[119, 116, 108, 49]⟩
/-- a head is read -/
def readOk (s : ByteArray) : Prop := 28 ≤ s.size ∧ s.extract 0 4 = markT ∧ headOk (fld s 4 4) (fld s 8 4) (fld s 12 1) (fld s 13 1) (fld s 14 1) (fld s 15 1) (fld s 16 4) (fld s 20 8)
def headS (s : ByteArray) : Value := headV (fld s 4 4) (fld s 8 4) (fld s 12 1) (fld s 13 1) (fld s 14 1) (fld s 15 1) (fld s 16 4) (fld s 20 8)
def ReadPost (s : ByteArray) (w : World) (e : Ending) (w' : World) : Prop :=
  Below w.heap.size w w' ∧ ((readOk s ∧ e = .returned (.tuple #[headS s, .int .i64 0])) ∨ (¬ readOk s ∧ e = .returned (.tuple #[headV 0 0 0 0 0 0 0 0, .int .i64 4])))

theorem mark_eq {t : ByteArray} (h : t = markT) : (t.toList == [119, 116, 108, 49]) = true := by
  rw [h, ByteArray.toList_eq]; rfl
theorem mark_ne {t : ByteArray} (h : ¬ t = markT) : (t.toList == [119, 116, 108, 49]) = false := by
  apply beq_eq_false_iff_ne.2
  intro e
  apply h
  rw [ByteArray.toList_eq] at e
  apply ByteArray.ext
  apply Array.ext'
  exact e

theorem valD_fld {s : ByteArray} {a b : Nat} {r : Int} (h : valD (nats (s.extract a b)) = r) : r = (fld s a (b - a) : Int) ∨ (r = -1 ∧ 134217728 < fld s a (b - a)) := by
  have v := valD_ok (nats (s.extract a b))
  rw [h, nats_extract] at v
  exact v
theorem heads_same {s : ByteArray} {r1 r2 r3 r4 : Int} {a d i z : Nat} (hs : 28 ≤ s.size) (hm : s.extract 0 4 = markT) (h1 : valD (nats (s.extract 4 8)) = r1) (h2 : valD (nats (s.extract 8 12)) = r2) (h3 : valD (nats (s.extract 20 28)) = r3) (h4 : valD (nats (s.extract 16 20)) = r4)
    (ha : fld s 12 1 = a) (hd : fld s 13 1 = d) (hi : fld s 14 1 = i) (hz : fld s 15 1 = z) :
    (headOk r1 r2 a d i z r4 r3 ↔ readOk s) ∧ (headOk r1 r2 a d i z r4 r3 → headV r1 r2 a d i z r4 r3 = headS s) := by
  have e1 := valD_fld h1
  have e2 := valD_fld h2
  have e3 := valD_fld h3
  have e4 := valD_fld h4
  simp only [show 8 - 4 = 4 from rfl, show 28 - 20 = 8 from rfl] at e1 e2 e3 e4
  clear h1 h2 h3 h4
  have eq : headOk r1 r2 a d i z r4 r3 → r1 = (fld s 4 4 : Int) ∧ r2 = (fld s 8 4 : Int) ∧ r4 = (fld s 16 4 : Int) ∧ r3 = (fld s 20 8 : Int) := by
    rintro ⟨n0, n1, m0, m1, b0, b1, -, d0, d1, c0, c1, -⟩
    omega
  refine ⟨⟨fun h => ⟨hs, hm, ?_⟩, fun h => ?_⟩, fun h => ?_⟩
  · obtain ⟨q1, q2, q3, q4⟩ := eq h
    rw [ha, hd, hi, hz, ← q1, ← q2, ← q3, ← q4]
    exact h
  · have h' := h.2.2
    rw [ha, hd, hi, hz] at h'
    have h'' := h'
    obtain ⟨n0, n1, m0, m1, b0, b1, -, d0, d1, c0, c1, -⟩ := h''
    have q1 : r1 = (fld s 4 4 : Int) := by omega
    have q2 : r2 = (fld s 8 4 : Int) := by omega
    have q3 : r4 = (fld s 16 4 : Int) := by omega
    have q4 : r3 = (fld s 20 8 : Int) := by omega
    rw [q1, q2, q3, q4]
    exact h'
  · obtain ⟨q1, q2, q3, q4⟩ := eq h
    unfold headS
    rw [ha, hd, hi, hz, ← q1, ← q2, ← q3, ← q4]

theorem five_set {W : World} {hb : Nat} {T : TypeId} {r1 r2 r3 r4 a d i z : Int} (q : W.heap[hb]? = some (.cells #[.int .i64 r1, .int .i64 r2, .int .i64 0, .int .i64 0, .int .i64 0, .int .i64 0, .int .i64 0, .int .i64 r3] T (0, 0))) :
    (((((W.setCell ⟨hb, 2, none⟩ (.int .i64 a)).setCell ⟨hb, 3, none⟩ (.int .i64 d)).setCell ⟨hb, 4, none⟩ (.int .i64 i)).setCell ⟨hb, 5, none⟩ (.int .i64 z)).setCell ⟨hb, 6, none⟩ (.int .i64 r4)).heap[hb]? = some (.cells #[.int .i64 r1, .int .i64 r2, .int .i64 a, .int .i64 d, .int .i64 i, .int .i64 z, .int .i64 r4, .int .i64 r3] T (0, 0)) := by
  have s1 := heap_setCell_same W hb 2 _ _ (.int .i64 a) q
  have s2 := heap_setCell_same _ hb 3 _ _ (.int .i64 d) s1
  have s3 := heap_setCell_same _ hb 4 _ _ (.int .i64 i) s2
  have s4 := heap_setCell_same _ hb 5 _ _ (.int .i64 z) s3
  have s5 := heap_setCell_same _ hb 6 _ _ (.int .i64 r4) s4
  rw [s5]
  rfl

set_option maxRecDepth 100000 in
set_option maxHeartbeats 3200000 in
theorem dread_any (s : ByteArray) (hs : s.size ≤ 1073741824000000) (w : World) :
    Calls Tryz.prog 10 #[.string s] w (ReadPost s w) := by
  by_cases hsz : s.size < 28
  · have NO : Hid (¬ readOk s) := Lib.hid (fun h => by have := h.1; omega)
    go_enter Tryz.func10, Tryz.ntmps10
    go_wp2_with fail
    refine bodyPost_ret (v := .tuple #[headV 0 0 0 0 0 0 0 0, .int .i64 4]) (by simp [results, Tryz.results10, go_sem, headV]) rfl ?_
    exact ⟨(Below.refl _ _).alloc (Nat.le_refl _) _, .inr ⟨NO.out, rfl⟩⟩
  · have s28 : (28 : Int) ≤ (s.size : Int) := by omega
    have s4 : (4 : Int) ≤ (s.size : Int) := by omega
    by_cases hm : s.extract 0 4 = markT
    · have s8 : (8 : Int) ≤ (s.size : Int) := by omega
      have s12 : (12 : Int) ≤ (s.size : Int) := by omega
      have s20 : (20 : Int) ≤ (s.size : Int) := by omega
      have hB := mark_eq hm
      have HM := Lib.hid hm
      have HZ := Lib.hid (show 28 ≤ s.size by omega)
      have V1 := Lib.hid (fun (a b : Nat) (h : b ≤ s.size) (hab : a ≤ b) (hb : b - a ≤ 8) (W : World) => value_any (s.extract a b) (by rw [extract_size s a b h hab]; omega) W)
      obtain ⟨r1, hr1⟩ : ∃ r, valD (nats (s.extract 4 8)) = r := ⟨_, rfl⟩
      obtain ⟨r2, hr2⟩ : ∃ r, valD (nats (s.extract 8 12)) = r := ⟨_, rfl⟩
      obtain ⟨r3, hr3⟩ : ∃ r, valD (nats (s.extract 20 28)) = r := ⟨_, rfl⟩
      obtain ⟨r4, hr4⟩ : ∃ r, valD (nats (s.extract 16 20)) = r := ⟨_, rfl⟩
      have C1 := Lib.hid (fun W => V1.out 4 8 (by omega) (by omega) (by omega) W)
      have C2 := Lib.hid (fun W => V1.out 8 12 (by omega) (by omega) (by omega) W)
      have C3 := Lib.hid (fun W => V1.out 20 28 (by omega) (by omega) (by omega) W)
      have C4 := Lib.hid (fun W => V1.out 16 20 (by omega) (by omega) (by omega) W)
      rw [hr1] at C1
      rw [hr2] at C2
      rw [hr3] at C3
      rw [hr4] at C4
      have HR1 := Lib.hid hr1
      have HR2 := Lib.hid hr2
      have HR3 := Lib.hid hr3
      have HR4 := Lib.hid hr4
      clear hm hr1 hr2 hr3 hr4 V1
      go_enter Tryz.func10, Tryz.ntmps10
      go_upto_region 3 with fail
      have r0 := heap_alloc_new w (.cells #[.int .i64 0, .int .i64 0, .int .i64 0, .int .i64 0, .int .i64 0, .int .i64 0, .int .i64 0, .int .i64 0] 25)
      have k0 : Below w.heap.size w (w.alloc (.cells #[.int .i64 0, .int .i64 0, .int .i64 0, .int .i64 0, .int .i64 0, .int .i64 0, .int .i64 0, .int .i64 0] 25)) := (Below.refl _ _).alloc (Nat.le_refl _) _
      generalize w.alloc (.cells #[.int .i64 0, .int .i64 0, .int .i64 0, .int .i64 0, .int .i64 0, .int .i64 0, .int .i64 0, .int .i64 0] 25) = W0 at r0 k0 ⊢
      obtain ⟨sz, hsz⟩ : ∃ k, w.heap.size = k := ⟨_, rfl⟩
      have HSZ := Lib.hid hsz
      have H0 : HB w sz #[.int .i64 0, .int .i64 0, .int .i64 0, .int .i64 0, .int .i64 0, .int .i64 0, .int .i64 0, .int .i64 0] 25 W0 := ⟨by rw [← hsz]; exact r0, k0⟩
      have HAL : Hid (∀ W row, HB w sz #[.int .i64 0, .int .i64 0, .int .i64 0, .int .i64 0, .int .i64 0, .int .i64 0, .int .i64 0, .int .i64 0] 25 W → HB w sz #[.int .i64 0, .int .i64 0, .int .i64 0, .int .i64 0, .int .i64 0, .int .i64 0, .int .i64 0, .int .i64 0] 25 (W.alloc (.cells row 25))) := Lib.hid (fun W row h => HB.next h ((Below.refl _ _).alloc (Nat.le_refl _) _))
      rw [hsz]
      clear r0 k0 hsz
      obtain ⟨hb, hhb⟩ : ∃ k, W0.heap.size = k := ⟨_, rfl⟩
      obtain ⟨W2, hW2⟩ : ∃ W2, (W0.alloc (.cells #[.int .i64 r1, .int .i64 r2, .int .i64 0, .int .i64 0, .int .i64 0, .int .i64 0, .int .i64 0, .int .i64 r3] 25)).drew = W2 := ⟨_, rfl⟩
      have h2 : HB w sz #[.int .i64 0, .int .i64 0, .int .i64 0, .int .i64 0, .int .i64 0, .int .i64 0, .int .i64 0, .int .i64 0] 25 W2 := by rw [← hW2]; exact HB.drew (HAL.out _ _ H0)
      have q2 : W2.heap[hb]? = some (.cells #[.int .i64 r1, .int .i64 r2, .int .i64 0, .int .i64 0, .int .i64 0, .int .i64 0, .int .i64 0, .int .i64 r3] 25 (0, 0)) := by rw [← hW2, ← hhb]; exact heap_alloc_new W0 _
      have HNE : Hid (sz < hb) := Lib.hid (by rw [← hhb]; exact lt_of_block H0.1)
      have HW := Lib.hid H0.2.size
      rw [hhb] at HW
      have HHB := Lib.hid hhb
      have HW2 := Lib.hid hW2
      have H2 := Lib.hid h2
      have Q2 := Lib.hid q2
      clear hhb hW2 h2 q2
      go_cut [4] from 14 to 23 (fun s4 wc => s4 = .pointer (some ⟨hb, 0, none⟩) ∧ W2 = wc)
      case first =>
        go_upto_region 3 with fail
        go_region_held3 (fun w' => HB w sz #[.int .i64 0, .int .i64 0, .int .i64 0, .int .i64 0, .int .i64 0, .int .i64 0, .int .i64 0, .int .i64 0] 25 w')
          (first
            | (with_reducible exact HB.drew H0)
            | (refine HB.drew ?_; with_reducible exact HAL.out _ _ H0))
          (first
            | (go_at_call_of 25 (Value.string (s.extract 4 8)); refine (C1.out _).mono ?_; rintro e w2 ⟨rfl, rfl⟩)
            | (go_at_call_of 25 (Value.string (s.extract 8 12)); refine (C2.out _).mono ?_; rintro e w2 ⟨rfl, rfl⟩)
            | (go_at_call_of 25 (Value.string (s.extract 20 28)); refine (C3.out _).mono ?_; rintro e w2 ⟨rfl, rfl⟩))
        all_goals
          go_wp2_with fail
          refine Met.intro ?_
          apply_assumption
          (repeat apply Exists.intro)
          refine ⟨?rel, rfl⟩
          case rel => exact ⟨by rw [HHB.out], HW2.out.symm⟩
      case rest =>
        obtain ⟨rfl, rfl⟩ := hcut
        clear H0 HAL
        go_upto_region 4 with fail
        refine wp_region_still_tail 17 (by kernel_rfl) (by kernel_rfl) ?_
        simp only [List.take_succ_cons, List.take_zero, List.drop_succ_cons, List.drop_zero]
        generalize hW3 : ({ W2 with drawn := W2.drawn + 1 } : World) = W3
        have H3 : Hid (HB w sz #[.int .i64 0, .int .i64 0, .int .i64 0, .int .i64 0, .int .i64 0, .int .i64 0, .int .i64 0, .int .i64 0] 25 W3) := Lib.hid (by rw [← hW3]; exact HB.drew H2.out)
        have q3 : W3.heap[hb]? = some (.cells #[.int .i64 r1, .int .i64 r2, .int .i64 0, .int .i64 0, .int .i64 0, .int .i64 0, .int .i64 0, .int .i64 r3] 25 (0, 0)) := by rw [← hW3]; exact Q2.out
        have Q3 := Lib.hid q3
        clear q3 hW3
        have i12 : (12 : Int) < (s.size : Int) := by omega
        have i13 : (13 : Int) < (s.size : Int) := by omega
        have i14 : (14 : Int) < (s.size : Int) := by omega
        have i15 : (15 : Int) < (s.size : Int) := by omega
        have n12 : 12 < s.size := by omega
        have n13 : 13 < s.size := by omega
        have n14 : 14 < s.size := by omega
        have n15 : 15 < s.size := by omega
        obtain ⟨a, ha⟩ : ∃ v, s[12].toNat = v := ⟨_, rfl⟩
        have Fa : Hid (fld s 12 1 = a) := Lib.hid (by rw [fld_one s 12 n12, ha])
        have wa : IntKind.i64.wrap (a : Int) = (a : Int) := IntWalk.i64_in _ (by have := s[12].toNat_lt; omega)
        obtain ⟨d, hd⟩ : ∃ v, s[13].toNat = v := ⟨_, rfl⟩
        have Fd : Hid (fld s 13 1 = d) := Lib.hid (by rw [fld_one s 13 n13, hd])
        have wd : IntKind.i64.wrap (d : Int) = (d : Int) := IntWalk.i64_in _ (by have := s[13].toNat_lt; omega)
        obtain ⟨i, hi⟩ : ∃ v, s[14].toNat = v := ⟨_, rfl⟩
        have Fi : Hid (fld s 14 1 = i) := Lib.hid (by rw [fld_one s 14 n14, hi])
        have wi : IntKind.i64.wrap (i : Int) = (i : Int) := IntWalk.i64_in _ (by have := s[14].toNat_lt; omega)
        obtain ⟨z, hz⟩ : ∃ v, s[15].toNat = v := ⟨_, rfl⟩
        have Fz : Hid (fld s 15 1 = z) := Lib.hid (by rw [fld_one s 15 n15, hz])
        have wz : IntKind.i64.wrap (z : Int) = (z : Int) := IntWalk.i64_in _ (by have := s[15].toNat_lt; omega)
        repeat (first | still_step | still_call ((C4.out _).mono (fun e w' h => ⟨h.1, h.2.symm⟩)))
        refine wpStill_nil ?_
        clear ha hd hi hz wa wd wi wz
        have e0 : W3.cell? ⟨hb, 0, none⟩ = some (.int .i64 r1) := by rw [cell_of_row W3 _ _ _ _ _ Q3.out]; rfl
        have e1 : W3.cell? ⟨hb, 1, none⟩ = some (.int .i64 r2) := by rw [cell_of_row W3 _ _ _ _ _ Q3.out]; rfl
        have e2 : W3.cell? ⟨hb, 2, none⟩ = some (.int .i64 0) := by rw [cell_of_row W3 _ _ _ _ _ Q3.out]; rfl
        have e3 : W3.cell? ⟨hb, 3, none⟩ = some (.int .i64 0) := by rw [cell_of_row W3 _ _ _ _ _ Q3.out]; rfl
        have e4 : W3.cell? ⟨hb, 4, none⟩ = some (.int .i64 0) := by rw [cell_of_row W3 _ _ _ _ _ Q3.out]; rfl
        have e5 : W3.cell? ⟨hb, 5, none⟩ = some (.int .i64 0) := by rw [cell_of_row W3 _ _ _ _ _ Q3.out]; rfl
        have e6 : W3.cell? ⟨hb, 6, none⟩ = some (.int .i64 0) := by rw [cell_of_row W3 _ _ _ _ _ Q3.out]; rfl
        have e7 : W3.cell? ⟨hb, 7, none⟩ = some (.int .i64 r3) := by rw [cell_of_row W3 _ _ _ _ _ Q3.out]; rfl
        have g2 : ∀ j, W3.frozen? ⟨hb, j, none⟩ = false := fun j => frozen_of_row W3 _ j _ _ Q3.out
        go_upto_region 5 with fail
        have q5 := five_set (a := a) (d := d) (i := i) (z := z) (r4 := r4) Q3.out
        have HSET : Hid (∀ W j v, HB w sz #[.int .i64 0, .int .i64 0, .int .i64 0, .int .i64 0, .int .i64 0, .int .i64 0, .int .i64 0, .int .i64 0] 25 W → HB w sz #[.int .i64 0, .int .i64 0, .int .i64 0, .int .i64 0, .int .i64 0, .int .i64 0, .int .i64 0, .int .i64 0] 25 (W.setCell ⟨hb, j, none⟩ v)) := Lib.hid (fun W j v h => h.set _ (by have := HNE.out; simp; omega) (by have := HW.out; simp; omega) _)
        have h5 := HSET.out _ 6 (.int .i64 r4) (HSET.out _ 5 (.int .i64 (z : Int)) (HSET.out _ 4 (.int .i64 (i : Int)) (HSET.out _ 3 (.int .i64 (d : Int)) (HSET.out _ 2 (.int .i64 (a : Int)) H3.out))))
        clear e0 e1 e2 e3 e4 e5 e6 e7 g2 HSET
        generalize World.setCell (World.setCell (World.setCell (World.setCell (World.setCell W3 _ _) _ _) _ _) _ _) _ _ = W5 at q5 h5 ⊢
        have c5 : ∀ j, W5.cell? ⟨hb, j, none⟩ = (#[.int .i64 r1, .int .i64 r2, .int .i64 (a : Int), .int .i64 (d : Int), .int .i64 (i : Int), .int .i64 (z : Int), .int .i64 r4, .int .i64 r3])[j]? := fun j => cell_of_row _ _ _ _ _ _ q5
        have f5 : ∀ j, W5.frozen? ⟨hb, j, none⟩ = false := fun j => frozen_of_row W5 _ j _ _ q5
        have Q5 := Lib.hid q5
        have H5 := Lib.hid h5
        have CH := Lib.hid (fun W => dhcheck_any r1 r2 a d i z r4 r3 W)
        unfold headV at CH
        clear q5 h5
        go_wp2_with fail
        refine (CH.out _).mono ?_
        clear c5 f5 CH
        rintro e w6 ⟨k6, ⟨hok, rfl⟩ | ⟨hno, rfl⟩⟩
        · have h6 := H5.out.next k6
          have K6 := Lib.hid h6.2
          have q6 := (k6.block _ (lt_of_block Q5.out)).trans Q5.out
          have e0 : w6.cell? ⟨sz, 0, none⟩ = some (.int .i64 0) := by rw [cell_of_row _ _ _ _ _ _ h6.1]; rfl
          have e1 : w6.cell? ⟨sz, 1, none⟩ = some (.int .i64 0) := by rw [cell_of_row _ _ _ _ _ _ h6.1]; rfl
          have e2 : w6.cell? ⟨sz, 2, none⟩ = some (.int .i64 0) := by rw [cell_of_row _ _ _ _ _ _ h6.1]; rfl
          have e3 : w6.cell? ⟨sz, 3, none⟩ = some (.int .i64 0) := by rw [cell_of_row _ _ _ _ _ _ h6.1]; rfl
          have e4 : w6.cell? ⟨sz, 4, none⟩ = some (.int .i64 0) := by rw [cell_of_row _ _ _ _ _ _ h6.1]; rfl
          have e5 : w6.cell? ⟨sz, 5, none⟩ = some (.int .i64 0) := by rw [cell_of_row _ _ _ _ _ _ h6.1]; rfl
          have e6 : w6.cell? ⟨sz, 6, none⟩ = some (.int .i64 0) := by rw [cell_of_row _ _ _ _ _ _ h6.1]; rfl
          have e7 : w6.cell? ⟨sz, 7, none⟩ = some (.int .i64 0) := by rw [cell_of_row _ _ _ _ _ _ h6.1]; rfl
          have g6 : ∀ j, w6.frozen? ⟨sz, j, none⟩ = false := fun j => frozen_of_row w6 _ j _ _ h6.1
          have c6 : ∀ j, w6.cell? ⟨hb, j, none⟩ = (#[.int .i64 r1, .int .i64 r2, .int .i64 (a : Int), .int .i64 (d : Int), .int .i64 (i : Int), .int .i64 (z : Int), .int .i64 r4, .int .i64 r3])[j]? := fun j => cell_of_row _ _ _ _ _ _ q6
          have f6 : ∀ j, w6.frozen? ⟨hb, j, none⟩ = false := fun j => frozen_of_row w6 _ j _ _ q6
          have HOK := Lib.hid hok
          clear h6 k6 q6 hok
          go_wp2_with fail
          have hs : ∀ j, w.heap.size ≤ (⟨sz, j, none⟩ : Addr).block := fun j => by have := HSZ.out; simp; omega
          refine bodyPost_ret (v := .tuple #[headV r1 r2 a d i z r4 r3, .int .i64 0]) (by simp [results, Tryz.results10, go_sem, headV, *]) rfl ?_
          have HH := heads_same HZ.out HM.out HR1.out HR2.out HR3.out HR4.out Fa.out Fd.out Fi.out Fz.out
          refine ⟨(((((((K6.out.setCell (hs _) _).setCell (hs _) _).setCell (hs _) _).setCell (hs _) _).setCell (hs _) _).setCell (hs _) _).setCell (hs _) _).setCell (hs _) _, .inl ⟨HH.1.1 HOK.out, ?_⟩⟩
          rw [HH.2 HOK.out]
        · have h6 := H5.out.next k6
          have K6 := Lib.hid h6.2
          have e0 : w6.cell? ⟨sz, 0, none⟩ = some (.int .i64 0) := by rw [cell_of_row _ _ _ _ _ _ h6.1]; rfl
          have e1 : w6.cell? ⟨sz, 1, none⟩ = some (.int .i64 0) := by rw [cell_of_row _ _ _ _ _ _ h6.1]; rfl
          have e2 : w6.cell? ⟨sz, 2, none⟩ = some (.int .i64 0) := by rw [cell_of_row _ _ _ _ _ _ h6.1]; rfl
          have e3 : w6.cell? ⟨sz, 3, none⟩ = some (.int .i64 0) := by rw [cell_of_row _ _ _ _ _ _ h6.1]; rfl
          have e4 : w6.cell? ⟨sz, 4, none⟩ = some (.int .i64 0) := by rw [cell_of_row _ _ _ _ _ _ h6.1]; rfl
          have e5 : w6.cell? ⟨sz, 5, none⟩ = some (.int .i64 0) := by rw [cell_of_row _ _ _ _ _ _ h6.1]; rfl
          have e6 : w6.cell? ⟨sz, 6, none⟩ = some (.int .i64 0) := by rw [cell_of_row _ _ _ _ _ _ h6.1]; rfl
          have e7 : w6.cell? ⟨sz, 7, none⟩ = some (.int .i64 0) := by rw [cell_of_row _ _ _ _ _ _ h6.1]; rfl
          have g6 : ∀ j, w6.frozen? ⟨sz, j, none⟩ = false := fun j => frozen_of_row w6 _ j _ _ h6.1
          have HNO := Lib.hid hno
          clear h6 k6 hno
          go_wp2_with fail
          have hs : ∀ j, w.heap.size ≤ (⟨sz, j, none⟩ : Addr).block := fun j => by have := HSZ.out; simp; omega
          refine bodyPost_ret (v := .tuple #[headV 0 0 0 0 0 0 0 0, .int .i64 4]) (by simp [results, Tryz.results10, go_sem, headV, *]) rfl ?_
          refine ⟨(((((((K6.out.setCell (hs _) _).setCell (hs _) _).setCell (hs _) _).setCell (hs _) _).setCell (hs _) _).setCell (hs _) _).setCell (hs _) _).setCell (hs _) _, .inr ⟨?_, rfl⟩⟩
          exact fun h => HNO.out ((heads_same HZ.out HM.out HR1.out HR2.out HR3.out HR4.out Fa.out Fd.out Fi.out Fz.out).1.2 h)
    · have NO : Hid (¬ readOk s) := Lib.hid (fun h => hm h.2.1)
      have hB := mark_ne hm
      clear hm
      go_enter Tryz.func10, Tryz.ntmps10
      go_wp2_with fail
      refine bodyPost_ret (v := .tuple #[headV 0 0 0 0 0 0 0 0, .int .i64 4]) (by simp [results, Tryz.results10, go_sem, headV]) rfl ?_
      exact ⟨(Below.refl _ _).alloc (Nat.le_refl _) _, .inr ⟨NO.out, rfl⟩⟩
end Go.Proofs.YthaicpbdlhkkkaaGreatDoor.pk
