/- The contract of a cache's room. -/
import Derived.Test.YtbgbomlmgkgkoaaGreatArcC2I
namespace Go.Proofs.YtbgbomlmgkgkoaaGreat.arcI
open Go.RowKit Go.Proofs.YtbgbomlmgkgkoaaGreat.own

def firstOf (s : St) (oft : Bool) : Bool := decide (1 ≤ s.once.length) && (decide (s.target < s.once.length) || (decide (s.once.length = s.target) && oft))
def pickOnce (s : St) (oft : Bool) : Bool := (firstOf s oft && (freeK s.pins s.once).isSome) || (!firstOf s oft && !(freeK s.pins s.often).isSome)
def isFull (s : St) : Bool := decide (s.once.length + s.often.length = s.size)
def roomS (s : St) (oft : Bool) : St × Option K :=
  if isFull s = false then (s, none)
  else if pickOnce s oft = true then
    match freeK s.pins s.once with
    | some k => ({ s with once := s.once.erase k, wonce := s.wonce ++ [k] }, some k)
    | none => (s, none)
  else
    match freeK s.pins s.often with
    | some k => ({ s with often := s.often.erase k, woften := s.woften ++ [k] }, some k)
    | none => (s, none)

def goneV : Option K → Value
  | some k => (Value.int .i64 k)
  | none => (Value.int .i64 0)
def touchedV (hit : Bool) (gone : Option K) : Value := .agg #[.bool hit, .bool gone.isSome, goneV gone]

theorem full_is (x : Nat → Nat) (c0 cb : Nat) (s : St) (N : Nat) (w : World) (h : CIs x c0 w cb s N) (h1 : s.once.length ≤ 8192) (h2 : s.often.length ≤ 8192) (b : Bool) (hb : isFull s = b) :
    Calls Tryz.prog 145 #[.pointer (some ⟨cb, 0, none⟩)] w fun e w' => e = .returned (.bool b) ∧ ∃ m, w.drewN m = w' :=
  (full_any x c0 cb s N w h h1 h2).mono fun e w' hh => ⟨by rw [hh.1, ← hb]; rfl, hh.2⟩
theorem free_once_some (x : Nat → Nat) (c0 cb : Nat) (s : St) (N : Nat) (w : World) (h : CIs x c0 w cb s N) (k : K) (hk : freeK s.pins s.once = some k) :
    Calls Tryz.prog 144 #[.pointer (some ⟨cb, 0, none⟩), .pointer (some ⟨cb, 1, none⟩)] w fun e w' => e = .returned (.tuple #[(Value.int .i64 k), .bool true]) ∧ w = w' :=
  (free_once x c0 cb s N w h).mono fun e w' hh => ⟨by rw [hh.1, hk]; rfl, hh.2⟩
theorem free_once_none (x : Nat → Nat) (c0 cb : Nat) (s : St) (N : Nat) (w : World) (h : CIs x c0 w cb s N) (hk : freeK s.pins s.once = none) :
    Calls Tryz.prog 144 #[.pointer (some ⟨cb, 0, none⟩), .pointer (some ⟨cb, 1, none⟩)] w fun e w' => e = .returned (.tuple #[(Value.int .i64 0), .bool false]) ∧ w = w' :=
  (free_once x c0 cb s N w h).mono fun e w' hh => ⟨by rw [hh.1, hk]; rfl, hh.2⟩
theorem free_often_some (x : Nat → Nat) (c0 cb : Nat) (s : St) (N : Nat) (w : World) (h : CIs x c0 w cb s N) (k : K) (hk : freeK s.pins s.often = some k) :
    Calls Tryz.prog 144 #[.pointer (some ⟨cb, 0, none⟩), .pointer (some ⟨cb, 3, none⟩)] w fun e w' => e = .returned (.tuple #[(Value.int .i64 k), .bool true]) ∧ w = w' :=
  (free_often x c0 cb s N w h).mono fun e w' hh => ⟨by rw [hh.1, hk]; rfl, hh.2⟩
theorem free_often_none (x : Nat → Nat) (c0 cb : Nat) (s : St) (N : Nat) (w : World) (h : CIs x c0 w cb s N) (hk : freeK s.pins s.often = none) :
    Calls Tryz.prog 144 #[.pointer (some ⟨cb, 0, none⟩), .pointer (some ⟨cb, 3, none⟩)] w fun e w' => e = .returned (.tuple #[(Value.int .i64 0), .bool false]) ∧ w = w' :=
  (free_often x c0 cb s N w h).mono fun e w' hh => ⟨by rw [hh.1, hk]; rfl, hh.2⟩

def RoomPost (x : Nat → Nat) (c0 cb : Nat) (s : St) (N : Nat) (oft : Bool) (w : World) (e : Ending) (w' : World) : Prop :=
  e = .returned (touchedV false (roomS s oft).2) ∧ Turned x c0 w w' cb (roomS s oft).1 (N + 1)

theorem turned_temp {x : Nat → Nat} {c0 : Nat} {w w' : World} {cb : Nat} {s : St} {N : Nat} (h : CIs x c0 w cb s N) (hb : Below w.heap.size w w') : Turned x c0 w w' cb s N :=
  turned_end hb (Fr.refl _ _ _) (h.temp (Fr.of_below hb rfl)) (Fr.refl _ _ _) (fun _ _ => rfl)
theorem below_drewN {B : Nat} {a w : World} (h : Below B a w) (n : Nat) : Below B a (w.drewN n) := ⟨h.os, h.tape, h.output, h.size, h.block⟩

theorem room_not (x : Nat → Nat) (c0 cb : Nat) (s : St) (N : Nat) (w : World) (oft : Bool) (h : CIs x c0 w cb s N) (h1 : s.once.length ≤ 8192) (h2 : s.often.length ≤ 8192) (hfull : isFull s = false) :
    Calls Tryz.prog 146 #[.pointer (some ⟨cb, 0, none⟩), .bool oft] w (RoomPost x c0 cb s N oft w) := by
  have R : Hid (roomS s oft = (s, none)) := Lib.hid (by unfold roomS; rw [if_pos hfull])
  have HF := Lib.hid hfull
  have H := Lib.hid h
  clear h hfull
  go_enter Tryz.func146, Tryz.ntmps146
  go_wp2_with fail
  have F1 : Hid (Fr x (paint x w.heap.size (c0 + 6)) (CT c0) w (w.alloc (.cells #[.bool false, .bool false, (Value.int .i64 0)] 224))) := Lib.hid (Fr.of_below ((Below.refl _ _).alloc (Nat.le_refl _) _) rfl)
  have H1 := Lib.hid (H.out.temp F1.out)
  refine (full_is _ c0 cb s N _ H1.out h1 h2 false HF.out).mono ?_
  rintro e w1 ⟨rfl, m, rfl⟩
  go_wp2_with fail
  refine bodyPost_ret (v := touchedV false none) (by simp [results, Tryz.results146, go_sem, touchedV, goneV]) rfl ?_
  refine ⟨by rw [R.out], ?_⟩
  rw [R.out]
  exact turned_temp (H.out.mono (by omega)) (by repeat (first | exact Below.refl _ _ | refine below_drewN ?_ _ | refine Below.setCell ?_ (by simp; try omega) _ | refine Below.alloc ?_ (by simp; try omega) _))

theorem cache_cells {x : Nat → Nat} {c0 : Nat} {w : World} {cb : Nat} {s : St} {N : Nat} (h : CIs x c0 w cb s N) :
    ∃ aT cT, w.cell? ⟨cb, 1, none⟩ = some (.slice aT s.once.length cT) ∧ w.cell? ⟨cb, 9, none⟩ = some (.int .i64 s.target) := by
  obtain ⟨a1, m1, a2, m2, a3, m3, a4, m4, pm, h0, hx, q1, _⟩ := h
  obtain ⟨aT, cT, e1⟩ := own_shape q1.kvs
  exact ⟨aT, cT, by rw [cell_of_row w cb _ _ _ _ h0, ← e1]; rfl, by rw [cell_of_row w cb _ _ _ _ h0]; rfl⟩

theorem pick_cases (s : St) (oft : Bool) : (s.target < s.once.length ∧ (((s.once.length : Nat) : Int) == (s.target : Nat)) = false ∧ firstOf s oft = decide (1 ≤ s.once.length)) ∨
    (s.once.length ≤ s.target ∧ (((s.once.length : Nat) : Int) == (s.target : Nat)) = true ∧ oft = true ∧ firstOf s oft = decide (1 ≤ s.once.length)) ∨
    (s.once.length ≤ s.target ∧ (((s.once.length : Nat) : Int) == (s.target : Nat)) = false ∧ firstOf s oft = false) ∨
    (s.once.length ≤ s.target ∧ (((s.once.length : Nat) : Int) == (s.target : Nat)) = true ∧ oft = false ∧ firstOf s oft = false) := by
  unfold firstOf
  by_cases h1 : s.target < s.once.length
  · exact .inl ⟨h1, beq_eq_false_iff_ne.2 (by omega), by simp [h1]⟩
  · by_cases h2 : s.once.length = s.target
    · cases oft with
      | true => exact .inr (.inl ⟨by omega, beq_iff_eq.2 (by omega), rfl, by simp [h2]⟩)
      | false => exact .inr (.inr (.inr ⟨by omega, beq_iff_eq.2 (by omega), rfl, by simp [h1]⟩))
    · exact .inr (.inr (.inl ⟨by omega, beq_eq_false_iff_ne.2 (by omega), by simp [h1, h2]⟩))

set_option maxRecDepth 100000 in
set_option maxHeartbeats 3200000 in
theorem room_once (x : Nat → Nat) (c0 cb : Nat) (s : St) (N : Nat) (w : World) (oft : Bool) (h : CIs x c0 w cb s N) (h1 : s.once.length ≤ 8192) (h2 : s.often.length ≤ 8192) (h3 : s.wonce.length ≤ 8192) (hN : N < 1099511627776) (hfull : isFull s = true) (k : K) (hok : ((Lit.int .i64 k).wf = true))
    (hp : pickOnce s oft = true) (hk : freeK s.pins s.once = some k) (hkw : k ∉ s.wonce) :
    Calls Tryz.prog 146 #[.pointer (some ⟨cb, 0, none⟩), .bool oft] w (RoomPost x c0 cb s N oft w) := by
  have R : Hid (roomS s oft = ({ s with once := s.once.erase k, wonce := s.wonce ++ [k] }, some k)) := Lib.hid (by unfold roomS; rw [if_neg (by rw [hfull]; simp), if_pos hp, hk])
  have HF := Lib.hid hfull
  have HK := Lib.hid hk
  have H := Lib.hid h
  have hpos : 1 ≤ s.once.length := List.length_pos_of_mem (freeK_mem hk).1
  have hn1 : decide ((1 : Int) ≤ (s.once.length : Nat)) = true := by
    have := (freeK_mem hk).1
    have := List.length_pos_of_mem this
    simp; omega
  have hpick := hp
  unfold pickOnce at hpick
  rw [hk] at hpick
  have hfo : firstOf s oft = true ∨ (firstOf s oft = false ∧ freeK s.pins s.often = none) := by
    cases hfo : firstOf s oft with
    | true => exact .inl rfl
    | false => right; refine ⟨rfl, ?_⟩; rw [hfo] at hpick; simpa using hpick
  clear h hfull hp hk hpick
  go_enter Tryz.func146, Tryz.ntmps146
  go_wp2_with fail
  have F1 : Hid (Fr x (paint x w.heap.size (c0 + 6)) (CT c0) w (w.alloc (.cells #[.bool false, .bool false, (Value.int .i64 0)] 224))) := Lib.hid (Fr.of_below ((Below.refl _ _).alloc (Nat.le_refl _) _) rfl)
  have H1 := Lib.hid (H.out.temp F1.out)
  refine (full_is _ c0 cb s N _ H1.out h1 h2 true HF.out).mono ?_
  rintro e w1 ⟨rfl, m, rfl⟩
  go_wp2_with fail
  refine (free_once_some _ c0 cb s N _ (H1.out.drewN m) k HK.out).mono ?_
  rintro e w1 ⟨rfl, rfl⟩
  go_wp2_with fail
  have F2 : Hid (Fr x (paint x w.heap.size (c0 + 6)) (CT c0) w ((w.alloc (.cells #[.bool false, .bool false, (Value.int .i64 0)] 224)).drewN m)) := Lib.hid (Fr.drewN F1.out m)
  have H2 := Lib.hid (H1.out.drewN m)
  have hr : ((w.alloc (.cells #[.bool false, .bool false, (Value.int .i64 0)] 224)).drewN m).heap[w.heap.size]? = some (.cells #[.bool false, .bool false, (Value.int .i64 0)] 224 (0, 0)) := heap_alloc_new w _
  have HR := Lib.hid hr
  have HX : Hid (paint x w.heap.size (c0 + 6) w.heap.size = c0 + 6) := Lib.hid (paint_new (Nat.le_refl _))
  have HBL : Hid (Below w.heap.size w ((w.alloc (.cells #[.bool false, .bool false, (Value.int .i64 0)] 224)).drewN m)) := Lib.hid (below_drewN ((Below.refl _ _).alloc (Nat.le_refl _) _) m)
  clear hr F1 H1
  generalize World.drewN (World.alloc w _) m = W1 at F2 H2 HR HBL ⊢
  obtain ⟨aT, cT, hc1, hc9⟩ := cache_cells H2.out
  rcases hfr : freeK s.pins s.often with _ | b
  · have HB := Lib.hid hfr
    clear hfr hfo
    refine (free_often_none _ c0 cb s N _ H2.out HB.out).mono ?_
    rintro e w1 ⟨rfl, rfl⟩
    rcases pick_cases s oft with ⟨d1, d2, _⟩ | ⟨d1, d2, rfl, _⟩ | ⟨d1, d2, _⟩ | ⟨d1, d2, rfl, _⟩
    all_goals
      go_wp2_with fail
      refine (take_once _ c0 cb s N _ k hok H2.out (by omega)).mono ?_
      rintro e w2 ⟨rfl, x2, hf2, hc2⟩
      have HF2 := Lib.hid hf2
      have HC2 := Lib.hid hc2
      clear hf2 hc2
      go_wp2_with fail
      refine (put_wonce _ c0 cb _ N _ k hok HC2.out hkw hN (show s.wonce.length < 1099511627776 by omega)).mono ?_
      rintro e w3 ⟨rfl, x3, hf3, hc3⟩
      have HF3 := Lib.hid (HF2.out.trans hf3)
      have HC3 := Lib.hid hc3
      have hr3 := (HF3.out.old w.heap.size (lt_of_block HR.out) (by rw [HX.out]; exact fun hh => by have := hh.2; omega)).trans HR.out
      have HR3 := Lib.hid hr3
      have HX3 : Hid (x3 w.heap.size = c0 + 6) := Lib.hid (by rw [HF3.out.col _ (lt_of_block HR.out)]; exact HX.out)
      have t0 : w3.cell? ⟨w.heap.size, 0, none⟩ = some (.bool false) := by rw [cell_of_row w3 _ _ _ _ _ hr3]; rfl
      have t1 : w3.cell? ⟨w.heap.size, 1, none⟩ = some (.bool false) := by rw [cell_of_row w3 _ _ _ _ _ hr3]; rfl
      have t2 : w3.cell? ⟨w.heap.size, 2, none⟩ = some (Value.int .i64 0) := by rw [cell_of_row w3 _ _ _ _ _ hr3]; rfl
      have t3 : ∀ j, w3.frozen? ⟨w.heap.size, j, none⟩ = false := fun j => frozen_of_row w3 _ j _ _ hr3
      clear hf3 hc3 hr3
      go_wp2_with fail
      refine bodyPost_ret (v := touchedV false (some k)) (by simp [results, Tryz.results146, go_sem, touchedV, goneV, t0, t1, t2]) rfl ?_
      refine ⟨by rw [R.out], ?_⟩
      rw [R.out]
      exact turned_end HBL.out HF3.out HC3.out (Fr.same rfl rfl rfl (by simp) (fun b hb hC => by
        have hne : b ≠ w.heap.size := by rintro rfl; exact hC HX3.out
        rw [Below.heap_setCell _ _ _ _ hne, Below.heap_setCell _ _ _ _ hne, Below.heap_setCell _ _ _ _ hne])) (fun b hb => by
        have hne : b ≠ w.heap.size := by omega
        rw [Below.heap_setCell _ _ _ _ hne, Below.heap_setCell _ _ _ _ hne, Below.heap_setCell _ _ _ _ hne])
  · have HB := Lib.hid hfr
    have hfo' : firstOf s oft = true := by
      rcases hfo with h | ⟨_, h⟩
      · exact h
      · rw [hfr] at h; cases h
    clear hfr hfo
    refine (free_often_some _ c0 cb s N _ H2.out b HB.out).mono ?_
    rintro e w1 ⟨rfl, rfl⟩
    rcases pick_cases s oft with ⟨d1, d2, _⟩ | ⟨d1, d2, rfl, _⟩ | ⟨_, _, hno⟩ | ⟨_, _, rfl, hno⟩
    rotate_left 2
    · rw [hno] at hfo'; cases hfo'
    · rw [hno] at hfo'; cases hfo'
    all_goals
      clear hfo'
      go_wp2_with fail
      refine (take_once _ c0 cb s N _ k hok H2.out (by omega)).mono ?_
      rintro e w2 ⟨rfl, x2, hf2, hc2⟩
      have HF2 := Lib.hid hf2
      have HC2 := Lib.hid hc2
      clear hf2 hc2
      go_wp2_with fail
      refine (put_wonce _ c0 cb _ N _ k hok HC2.out hkw hN (show s.wonce.length < 1099511627776 by omega)).mono ?_
      rintro e w3 ⟨rfl, x3, hf3, hc3⟩
      have HF3 := Lib.hid (HF2.out.trans hf3)
      have HC3 := Lib.hid hc3
      have hr3 := (HF3.out.old w.heap.size (lt_of_block HR.out) (by rw [HX.out]; exact fun hh => by have := hh.2; omega)).trans HR.out
      have HR3 := Lib.hid hr3
      have HX3 : Hid (x3 w.heap.size = c0 + 6) := Lib.hid (by rw [HF3.out.col _ (lt_of_block HR.out)]; exact HX.out)
      have t0 : w3.cell? ⟨w.heap.size, 0, none⟩ = some (.bool false) := by rw [cell_of_row w3 _ _ _ _ _ hr3]; rfl
      have t1 : w3.cell? ⟨w.heap.size, 1, none⟩ = some (.bool false) := by rw [cell_of_row w3 _ _ _ _ _ hr3]; rfl
      have t2 : w3.cell? ⟨w.heap.size, 2, none⟩ = some (Value.int .i64 0) := by rw [cell_of_row w3 _ _ _ _ _ hr3]; rfl
      have t3 : ∀ j, w3.frozen? ⟨w.heap.size, j, none⟩ = false := fun j => frozen_of_row w3 _ j _ _ hr3
      clear hf3 hc3 hr3
      go_wp2_with fail
      refine bodyPost_ret (v := touchedV false (some k)) (by simp [results, Tryz.results146, go_sem, touchedV, goneV, t0, t1, t2]) rfl ?_
      refine ⟨by rw [R.out], ?_⟩
      rw [R.out]
      exact turned_end HBL.out HF3.out HC3.out (Fr.same rfl rfl rfl (by simp) (fun b hb hC => by
        have hne : b ≠ w.heap.size := by rintro rfl; exact hC HX3.out
        rw [Below.heap_setCell _ _ _ _ hne, Below.heap_setCell _ _ _ _ hne, Below.heap_setCell _ _ _ _ hne])) (fun b hb => by
        have hne : b ≠ w.heap.size := by omega
        rw [Below.heap_setCell _ _ _ _ hne, Below.heap_setCell _ _ _ _ hne, Below.heap_setCell _ _ _ _ hne])

end Go.Proofs.YtbgbomlmgkgkoaaGreat.arcI
