/- The statement ArcNames: the walk of the law: calls on nothing, New's ends, and one play of a cache of texts. -/
import Derived.BigQuiet
import Derived.BigRegion
import Derived.Test.YthcdfdkhmlkneaaArcVS
namespace Go.Proofs.Ythcdfdkhmlkneaa.arcS
open Go.RowKit Go.Proofs.Ythcdfdkhmlkneaa.own

theorem Touch_nil (w : World) (k : K) : Calls Try.prog 23 #[.pointer none, .string ⟨List.toArray k⟩] w fun e w' => e = .returned (.tuple #[touchedV false none, .int .i64 2]) ∧ Below w.heap.size w w' := by
  go_enter Try.func23, Try.ntmps23
  go_wp2_with fail
  refine bodyPost_ret (v := .tuple #[touchedV false none, .int .i64 2]) (by simp [results, Try.results23, go_sem, touchedV, goneV]) rfl ?_
  exact ⟨rfl, (by repeat (first | exact Below.refl _ _ | refine Below.setCell ?_ (by simp) _ | refine Below.alloc ?_ (by simp) _))⟩
theorem Pin_nil (w : World) (k : K) : Calls Try.prog 25 #[.pointer none, .string ⟨List.toArray k⟩] w fun e w' => e = .returned (.int .i64 2) ∧ w = w' := by
  go_enter Try.func25, Try.ntmps25
  go_wp2
  go_ret
  exact ⟨rfl, rfl⟩
theorem Unpin_nil (w : World) (k : K) : Calls Try.prog 26 #[.pointer none, .string ⟨List.toArray k⟩] w fun e w' => e = .returned (.int .i64 2) ∧ w = w' := by
  go_enter Try.func26, Try.ntmps26
  go_wp2
  go_ret
  exact ⟨rfl, rfl⟩
theorem Drop_nil (w : World) (k : K) : Calls Try.prog 27 #[.pointer none, .string ⟨List.toArray k⟩] w fun e w' => e = .returned (.int .i64 2) ∧ w = w' := by
  go_enter Try.func27, Try.ntmps27
  go_wp2
  go_ret
  exact ⟨rfl, rfl⟩
theorem Pins_nil (w : World) (k : K) : Calls Try.prog 29 #[.pointer none, .string ⟨List.toArray k⟩] w fun e w' => e = .returned (.int .i64 0) ∧ w = w' := by
  go_enter Try.func29, Try.ntmps29
  go_wp2
  go_ret
  exact ⟨rfl, rfl⟩
theorem Target_nil (w : World) : Calls Try.prog 30 #[.pointer none] w fun e w' => e = .returned (.int .i64 0) ∧ w = w' := by
  go_enter Try.func30, Try.ntmps30
  go_wp2
  go_ret
  exact ⟨rfl, rfl⟩
theorem Lists_nil (w : World) : Calls Try.prog 24 #[.pointer none] w fun e w' => e = .returned (.tuple #[.slice none 0 0, .slice none 0 0, .slice none 0 0, .slice none 0 0]) ∧ w = w' := by
  go_enter Try.func24, Try.ntmps24
  go_wp2
  refine bodyPost_ret (v := .tuple #[.slice none 0 0, .slice none 0 0, .slice none 0 0, .slice none 0 0]) (by simp [results, Try.results24, go_sem]) rfl ?_
  exact ⟨rfl, rfl⟩
theorem New_low (w : World) : Calls Try.prog 31 #[.int .i64 0] w fun e w' => e = .returned (.tuple #[.pointer none, .int .i64 1]) ∧ w = w' := by
  go_enter Try.func31, Try.ntmps31
  go_wp2
  go_ret2
  exact ⟨rfl, rfl⟩
theorem New_high (w : World) : Calls Try.prog 31 #[.int .i64 4097] w fun e w' => e = .returned (.tuple #[.pointer none, .int .i64 1]) ∧ w = w' := by
  go_enter Try.func31, Try.ntmps31
  go_wp2
  go_ret2
  exact ⟨rfl, rfl⟩

def sOne : K := [111, 110, 101]
def sTwo : K := [116, 119, 111]
def sThree : K := [116, 104, 114, 101, 101]
def nw1 : St := ⟨2, [sOne], [], [], [], 0, fun _ => 0⟩
def nw2 : St := ⟨2, [sOne, sTwo], [], [], [], 0, fun _ => 0⟩
def nw3 : St := ⟨2, [sTwo], [sOne], [], [], 0, fun _ => 0⟩
def nw4 : St := ⟨2, [sThree], [sOne], [sTwo], [], 0, fun _ => 0⟩
theorem nwk1 : touchS (newS 2) sOne = (nw1, false, none, 0) := by rfl
theorem nwk2 : touchS nw1 sTwo = (nw2, false, none, 0) := by rfl
theorem nwk3 : touchS nw2 sOne = (nw3, true, none, 0) := by rfl
theorem nwk4 : touchS nw3 sThree = (nw4, false, some sTwo, 0) := by rfl
theorem nwk5 : pinR nw4 sTwo = (nw4, 6) := by rfl
theorem nwk6 : unpinR nw4 sOne = (nw4, 16) := by rfl
theorem _root_.Go.Proofs.Ythcdfdkhmlkneaa.own.Fr.below_allS {x x' : Nat → Nat} {C : Nat → Prop} {w w' : World} (h : Fr x x' C w w') (hC : ∀ b, b < w.heap.size → ¬ C (x b)) : Below w.heap.size w w' :=
  ⟨h.os, h.tape, h.output, h.size, fun b hb => h.old b hb (hC b hb)⟩

set_option maxRecDepth 100000 in
set_option maxHeartbeats 12800000 in
theorem names_walk (w : World) : Calls Try.prog 6 #[] w fun e w' => e = .returned (.bool true) ∧ Below w.heap.size w w' := by
  have k1 : List.length sOne ≤ maxLen := by decide
  have k2 : List.length sTwo ≤ maxLen := by decide
  have k3 : List.length sThree ≤ maxLen := by decide
  have O0 := Lib.hid (newS_ok 2 (by omega))
  have O1 : Hid (Ok nw1) := Lib.hid (by have := (touchS_ok (newS 2) sOne O0.out k1).ok; rw [nwk1] at this; exact this)
  have O2 : Hid (Ok nw2) := Lib.hid (by have := (touchS_ok nw1 sTwo O1.out k2).ok; rw [nwk2] at this; exact this)
  have O3 : Hid (Ok nw3) := Lib.hid (by have := (touchS_ok nw2 sOne O2.out k1).ok; rw [nwk3] at this; exact this)
  go_enter Try.func6, Try.ntmps6
  go_wp2_with fail
  refine (Touch_nil w [97]).mono ?_
  rintro e w1 ⟨rfl, b1⟩
  dsimp only [touchedV, goneV, Option.isSome]
  have B2 : Hid (Below w.heap.size w (w1.alloc (.cells #[.bool false, .bool false, .string ⟨#[]⟩] 63))) := Lib.hid (b1.alloc b1.size _)
  clear b1
  go_wp2_with fail
  generalize World.alloc w1 _ = w2 at B2 ⊢
  refine (Lists_nil w2).mono ?_
  rintro e w3 ⟨rfl, rfl⟩
  go_wp2_with fail
  refine (Pin_nil w2 [97]).mono ?_
  rintro e w3 ⟨rfl, rfl⟩
  go_wp2_with fail
  refine (Unpin_nil w2 [97]).mono ?_
  rintro e w3 ⟨rfl, rfl⟩
  go_wp2_with fail
  refine (Drop_nil w2 [97]).mono ?_
  rintro e w3 ⟨rfl, rfl⟩
  go_wp2_with fail
  refine (Has_nil w2 [97]).mono ?_
  rintro e w3 ⟨rfl, rfl⟩
  go_wp2_with fail
  refine (Pins_nil w2 [97]).mono ?_
  rintro e w3 ⟨rfl, rfl⟩
  go_wp2_with fail
  refine (Target_nil w2).mono ?_
  rintro e w3 ⟨rfl, rfl⟩
  go_wp2_with fail
  refine (New_low w2).mono ?_
  rintro e w3 ⟨rfl, rfl⟩
  go_wp2_with fail
  refine (New_high w2).mono ?_
  rintro e w3 ⟨rfl, rfl⟩
  go_wp2_with fail
  refine (New_any (fun _ => 100) 0 2 (by omega) (by omega) w2).mono ?_
  rintro e w3 ⟨cb, x3, rfl, f3, h3, _⟩
  have F3 := Lib.hid (f3.mono (CD_sub 0))
  have H3 := Lib.hid h3
  clear f3 h3
  go_wp2_with fail
  refine (touch_any x3 0 cb (newS 2) 0 sOne k1 w3 H3.out O0.out (by omega)).mono ?_
  rintro e w4 ⟨rfl, x4, f4, h4⟩
  rw [nwk1] at h4 ⊢
  have F4 := Lib.hid (F3.out.trans (f4.mono (CD_sub 0)))
  have H4 : Hid (CIs x4 0 w4 cb nw1 2) := Lib.hid h4
  clear f4 h4
  go_wp2_with fail
  refine (touch_any x4 0 cb nw1 2 sTwo k2 w4 H4.out O1.out (by omega)).mono ?_
  rintro e w5 ⟨rfl, x5, f5, h5⟩
  rw [nwk2] at h5 ⊢
  have F5 := Lib.hid (F4.out.trans (f5.mono (CD_sub 0)))
  have H5 : Hid (CIs x5 0 w5 cb nw2 4) := Lib.hid h5
  clear f5 h5
  go_wp2_with fail
  refine (touch_any x5 0 cb nw2 4 sOne k1 w5 H5.out O2.out (by omega)).mono ?_
  rintro e w6 ⟨rfl, x6, f6, h6⟩
  rw [nwk3] at h6 ⊢
  dsimp only [touchedV, goneV, Option.isSome]
  have F6 := Lib.hid (F5.out.trans (f6.mono (CD_sub 0)))
  have H6 : Hid (CIs x6 0 w6 cb nw3 6) := Lib.hid h6
  clear f6 h6
  go_wp2_with fail
  have HB6 : Hid (Below w6.heap.size w6 (w6.alloc (.cells #[.bool true, .bool false, .string ⟨#[]⟩] 63))) := Lib.hid ((Below.refl _ _).alloc (Nat.le_refl _) _)
  have HR6 : Hid ((w6.alloc (.cells #[.bool true, .bool false, .string ⟨#[]⟩] 63)).heap[w6.heap.size]? = some (.cells #[.bool true, .bool false, .string ⟨#[]⟩] 63 (0, 0))) := Lib.hid (heap_alloc_new w6 _)
  have H7 := Lib.hid (H6.out.below HB6.out)
  have F7 := Lib.hid (F6.out.trans (Fr.of_below (x := x6) (C := CC 0) HB6.out (c := 6) ⟨by omega, by omega⟩))
  have HX7 : Hid (paint x6 w6.heap.size (0 + 6) w6.heap.size = 0 + 6) := Lib.hid (paint_new (Nat.le_refl _))
  refine (touch_any _ 0 cb nw3 6 sThree k3 _ H7.out O3.out (by omega)).mono ?_
  rintro e w8 ⟨rfl, x8, f8, h8⟩
  rw [nwk4] at h8 ⊢
  dsimp only [touchedV, goneV, Option.isSome]
  have F8 := Lib.hid (F7.out.trans (f8.mono (CD_sub 0)))
  have H8 : Hid (CIs x8 0 w8 cb nw4 8) := Lib.hid h8
  obtain ⟨hr8, _⟩ := own_kept f8 HR6.out HX7.out
  have HR8 := Lib.hid hr8
  have hlt := lt_of_block hr8
  clear f8 h8 hr8
  have u0 : w8.cell? ⟨w6.heap.size, 0, none⟩ = some (.bool true) := by rw [cell_of_row w8 _ _ _ _ _ HR8.out]; rfl
  have u1 : w8.cell? ⟨w6.heap.size, 1, none⟩ = some (.bool false) := by rw [cell_of_row w8 _ _ _ _ _ HR8.out]; rfl
  have u2 : w8.cell? ⟨w6.heap.size, 2, none⟩ = some (.string ⟨#[]⟩) := by rw [cell_of_row w8 _ _ _ _ _ HR8.out]; rfl
  have HB8 : Hid (Below w8.heap.size w8 (w8.alloc (.cells #[.bool false, .bool true, .string ⟨List.toArray sTwo⟩] 63))) := Lib.hid ((Below.refl _ _).alloc (Nat.le_refl _) _)
  have H9 := Lib.hid (H8.out.below HB8.out)
  have F9 := Lib.hid (F8.out.trans (Fr.of_below (x := x8) (C := CC 0) HB8.out (c := 6) ⟨by omega, by omega⟩))
  go_wp2_with fail
  have ht : ((nw4.target : Nat) : Int) = 0 := rfl
  have hp : ∀ a, nw4.pins a < 1099511627776 := fun a => by show 0 < 1099511627776; omega
  refine (Target_any _ 0 cb nw4 8 _ H9.out).mono ?_
  rintro e w9 ⟨rfl, rfl⟩
  rw [ht]
  go_wp2_with fail
  refine (Pin_any _ 0 cb nw4 8 _ sTwo k2 H9.out (by omega) (hp _)).mono ?_
  rintro e w10 ⟨rfl, x10, f10, h10⟩
  rw [nwk5] at h10 ⊢
  have F10 := Lib.hid (F9.out.trans (f10.mono (CD_sub 0)))
  have H10 : Hid (CIs x10 0 w10 cb nw4 9) := Lib.hid h10
  clear f10 h10
  go_wp2_with fail
  refine (Unpin_any _ 0 cb nw4 9 _ sOne k1 H10.out (by omega) (hp _)).mono ?_
  rintro e w11 ⟨rfl, x11, f11, _⟩
  rw [nwk6]
  have F11 := Lib.hid (F10.out.trans (f11.mono (CD_sub 0)))
  clear f11
  go_wp2_with fail
  go_ret
  exact ⟨rfl, below_trans B2.out (F11.out.below_allS (fun b _ hC => by have := hC.2; omega)) B2.out.size⟩

end Go.Proofs.Ythcdfdkhmlkneaa.arcS
