/- Statement EdgesNone: the walk of the law. -/
import Derived.BigQuiet
import Derived.BigRegion
import Derived.Deep.CutRange
import Derived.Laws.IdiomStrings
import Derived.Test.YthaicpbdlhkkkaaEvArg
import Derived.Test.YthaicpbdlhkkkaaEdgLaw1
namespace Go.Proofs.Ythaicpbdlhkkkaa.edg
open Go.RowKit

theorem line_nil (w : World) :
    Calls Try.prog 18 #[.pointer none] w fun e w' => e = .returned (.int .i64 0) ∧ w = w' := by
  go_enter Try.func18, Try.ntmps18
  go_wp2
  go_ret
  exact ⟨rfl, rfl⟩

theorem pn1 : parseRes 0 ⟨#[]⟩ = ([], 0, 0) := by decide +kernel
theorem pn2 : parseRes (-1) ⟨#[]⟩ = ([], 0, 1) := by decide +kernel
theorem pn3 : parseRes 65537 ⟨#[]⟩ = ([], 0, 1) := by decide +kernel
theorem pn4 : parseRes 65536 ⟨#[54, 53, 53, 51, 53, 32, 48]⟩ = ([(65535, 0)], 0, 0) := by decide +kernel
theorem pn5 : parseRes 65536 ⟨#[54, 53, 53, 51, 54, 32, 48]⟩ = ([], 1, 15) := by decide +kernel
theorem pn6 : parseRes 0 ⟨#[48, 32, 48]⟩ = ([], 1, 15) := by decide +kernel
theorem cutAt_no (l : B) (h : ∀ c ∈ l, c ≠ 10) : cutAt 10 l = (l, [], false) := by
  induction l with
  | nil => rfl
  | cons c r ih =>
    rw [cutAt, if_neg (h c (List.mem_cons_self ..)), ih (fun x hx => h x (List.mem_cons_of_mem _ hx))]
theorem lines_no (c : UInt8) (r : B) (h : ∀ x ∈ c :: r, x ≠ 10) : lines (c :: r) = [c :: r] := by
  rw [lines_cut _ (by simp), cutAt_no _ h]
  rfl
theorem pn7 (s : ByteArray) (h : s.size = 16777217) : parseRes 1 s = ([], 0, 1) := by
  unfold parseRes
  rw [if_neg (by unfold mayRead; simp; omega)]
theorem pn8 (s : ByteArray) (r : B) (h : s.data.toList = 35 :: r) (hr : ∀ x ∈ r, x = 0) (hs : s.size ≤ 16777216) : parseRes 1 s = ([], 0, 0) := by
  unfold parseRes
  rw [if_pos (by unfold mayRead; simp; omega), h, lines_no 35 r (fun x hx => by
    rcases List.mem_cons.1 hx with rfl | hx
    · decide
    · rw [hr x hx]; decide)]
  rfl

/-! ### Group where it refuses, or has nothing to do -/
theorem group_no (n : Int) (h : n < 0 ∨ 65536 < n) (v : Value) (w : World) :
    Calls Try.prog 20 #[.int .i64 n, v] w fun e w' => e = .returned (.tuple #[.slice none 0 0, .int .i64 1]) ∧ w = w' := by
  go_enter Try.func20, Try.ntmps20
  by_cases h1 : n < 0
  · go_wp2_with fail
    go_ret2
    exact ⟨rfl, rfl⟩
  · have h2 : 65536 < n := by omega
    go_wp2_with fail
    go_ret2
    exact ⟨rfl, rfl⟩

theorem group_one (g : Nat) (z : Nat × Nat) (w : World) (h0 : w.heap[g]? = some (.cells #[.int .u32 0, .int .u32 1] 37 z)) :
    Calls Try.prog 20 #[.int .i64 1, .slice (some ⟨g, 0, none⟩) 1 1] w fun e w' => e = .returned (.tuple #[.slice none 0 0, .int .i64 1]) ∧ Below w.heap.size w w' :=
  ev.told_pair (n := 1000000) (by kernel_rfl) (by kernel_rfl) h0 rfl rfl (ev.LR.cons (.atom rfl) (ev.LR.one 1)) rfl (by kernel_rfl)
theorem show_one (g : Nat) (z : Nat × Nat) (w : World) (h0 : w.heap[g]? = some (.cells #[.int .u32 4294967295, .int .u32 0] 37 z)) :
    Calls Try.prog 19 #[.slice (some ⟨g, 0, none⟩) 1 1] w fun e w' => e = .returned (.string ⟨#[52, 50, 57, 52, 57, 54, 55, 50, 57, 53, 32, 48, 10]⟩) ∧ Below w.heap.size w w' :=
  ev.told_pair (n := 1000000) (by kernel_rfl) (by kernel_rfl) h0 rfl rfl (ev.LR.one 1) rfl (by kernel_rfl)
theorem show_nil (w : World) :
    Calls Try.prog 19 #[.slice none 0 0] w fun e w' => e = .returned (.string ⟨#[]⟩) ∧ Below w.heap.size w w' :=
  ev.told_flat (n := 1000000) (by kernel_rfl) (by kernel_rfl) (ev.LR.cons (.atom rfl) ev.LR.nil) rfl (by kernel_rfl)

theorem Try.infoRow : (Try.prog.info? 47).map (fun i => (i.zero, i.size, i.bytes)) = some (some (.slice none 0 0), 1, 24) := by kernel_rfl
theorem Try.infoByte : (Try.prog.info? 5).map (fun i => (i.zero, i.size, i.bytes)) = some (some (.int .u8 0), 1, 1) := by kernel_rfl
set_option maxRecDepth 100000 in
theorem group_none (w : World) :
    Calls Try.prog 20 #[.int .i64 0, .slice none 0 0] w fun e w' => ∃ a c, e = .returned (.tuple #[.slice a 0 c, .int .i64 0]) ∧ Below w.heap.size w w' := by
  obtain ⟨i0, hi, hz0, hz1, hz2⟩ := info_parts Try.infoRow
  obtain ⟨w1, hrun, -, hg⟩ := run_make_full w 0 44 47 i0 _ 1 (by kernel_rfl) hi hz0 hz1 .i64 .i64 0 (by omega) (by simp only [maxLen]; omega) (Nat.zero_le _)
  have hrun1 : (Instr.makeSlice 44 (.int .i64 0) (.int .i64 0)).run Try.prog w = .ok (.slice (some ⟨w.heap.size, 0, none⟩) 0 0) w1 := hrun
  have B1 : Hid (Below w.heap.size w w1) := Lib.hid ⟨hg.os, hg.tape, hg.output, hg.size, fun k hk => hg.block k hk (by simp)⟩
  clear hrun hg hi hz0 hz1 hz2
  go_enter Try.func20, Try.ntmps20
  go_wp2_with fail
  go_loopw [20] (fun i wr => i = .int .i64 0 ∧ w1 = wr) (fun _ _ => 0)
  case atStart => exact ⟨rfl, rfl⟩
  case round =>
    obtain ⟨rfl, rfl⟩ := hrel
    go_wp2_with fail
    go_loopw [49] (fun i wr => i = .int .i64 0 ∧ w1 = wr) (fun _ _ => 0)
    case atStart => exact ⟨rfl, rfl⟩
    case round =>
      obtain ⟨rfl, rfl⟩ := hrel
      go_wp2_with fail
      go_ret2
      exact ⟨_, _, rfl, B1.out⟩

/-- a text of so many bytes 0, made new -/
theorem big_string (w : World) (N : Nat) (hN : N ≤ 16777217) : ∃ w1 big, (Instr.makeSlice 53 (.int .i64 (N : Int)) (.int .i64 (N : Int))).run Try.prog w = .ok (.slice (some ⟨w.heap.size, 0, none⟩) N N) w1 ∧
    (convert 53 9 (.slice (some ⟨w.heap.size, 0, none⟩) N N)).run Try.prog w1 = .ok (.string big) w1 ∧ big.size = N ∧ (∀ x ∈ big.data.toList, x = 0) ∧ Below w.heap.size w w1 := by
  obtain ⟨i0, hi, hz0, hz1, hz2⟩ := info_parts Try.infoByte
  obtain ⟨w1, hrun, hown, hg⟩ := run_make_full w 0 53 5 i0 _ 1 (by kernel_rfl) hi hz0 hz1 .i64 .i64 N (by rw [hz2]; omega) (by simp only [maxLen]; omega) (Nat.zero_le _)
  have hc := run_convert_bytes_back (P := Try.prog) w1 53 9 5 ⟨w.heap.size, 0, none⟩ N (List.replicate N (0 : UInt8)) (by kernel_rfl) (by kernel_rfl) (by kernel_rfl) (fun j hj => by
    have hj' : j < N := by simpa using hj
    rw [Addr.add_lit, Nat.zero_add, hown.cellAt j (by omega)]
    have e : (Value.int .u8 0).cells = #[.int .u8 0] := rfl
    rw [e, toList_madeCells_one, List.getElem?_replicate, if_pos (by omega), List.getElem_replicate]
    rfl)
  rw [List.length_replicate] at hc
  refine ⟨w1, _, hrun, hc, ?_, ?_, ⟨hg.os, hg.tape, hg.output, hg.size, fun k hk => hg.block k hk (by simp)⟩⟩
  · show (List.replicate N (0 : UInt8)).toArray.size = N
    simp
  · intro x hx
    exact List.eq_of_mem_replicate (by simpa using hx)
theorem hash_big (big : ByteArray) (k : Nat) (h : ∀ x ∈ big.data.toList, x = 0) (hk : k ≤ 16777215) : parseRes 1 ((⟨#[35]⟩ : ByteArray) ++ big.extract 0 k) = ([], 0, 0) := by
  refine pn8 _ (big.data.toList.take k) ?_ (fun x hx => h x (List.mem_of_mem_take hx)) ?_
  · rw [← take_extract]
    simp
  · have := size_extract big 0 k
    have e : (big.extract 0 k).size ≤ k := by simp; omega
    have e2 : ((⟨#[35]⟩ : ByteArray) ++ big.extract 0 k).size = 1 + (big.extract 0 k).size := by simp [ByteArray.size_append]; rfl
    omega

theorem below_via {w W w' : World} (h : Below w.heap.size w W) (hb : Below W.heap.size W w') : Below w.heap.size w w' := h.trans (hb.mono h.size)

set_option maxRecDepth 100000 in
set_option maxHeartbeats 12800000 in
theorem edgesNone_walk (w : World) : Calls Try.prog 6 #[] w fun e w' => e = .returned (.bool true) ∧ Below w.heap.size w w' := by
  go_enter Try.func6, Try.ntmps6
  go_wp2_with fail
  refine (next_nil _).mono ?_
  rintro e w0 ⟨rfl, hb0⟩
  have B0 := Lib.hid hb0
  have z0 := hb0.size
  clear hb0
  go_wp2_with fail
  refine (parse_is 0 _ _ _ _ pn1 _).mono ?_
  rintro e w1 ⟨v1, rfl, ho1, hb1⟩
  obtain ⟨a1, c1, rfl⟩ := own_shape ho1
  have B1 : Hid (Below w.heap.size w w1) := Lib.hid (below_via (B0.out.alloc z0 _) hb1)
  have z1 := B1.out.size
  clear hb1 ho1 B0 z0
  go_wp2_with fail
  refine (parse_is (-1) _ _ _ _ pn2 _).mono ?_
  rintro e w2 ⟨v2, rfl, -, hb2⟩
  have B2 : Hid (Below w.heap.size w w2) := Lib.hid (below_via (by repeat (first | exact B1.out | refine Below.drew ?_ | refine below_drewN ?_ _ | refine Below.setCell ?_ (by simp; try omega) _ | refine Below.alloc ?_ (by simp; try omega) _)) hb2)
  have z2 := B2.out.size
  clear hb2 B1 z1
  go_wp2_with fail
  refine (parse_is 65537 _ _ _ _ pn3 _).mono ?_
  rintro e w3 ⟨v3, rfl, -, hb3⟩
  have B3 : Hid (Below w.heap.size w w3) := Lib.hid (below_via (by repeat (first | exact B2.out | refine Below.drew ?_ | refine below_drewN ?_ _ | refine Below.setCell ?_ (by simp; try omega) _ | refine Below.alloc ?_ (by simp; try omega) _)) hb3)
  have z3 := B3.out.size
  clear hb3 B2 z2
  go_wp2_with fail
  refine (parse_is 65536 _ _ _ _ pn4 _).mono ?_
  rintro e w4 ⟨v4, rfl, ho4, hb4⟩
  have B4 : Hid (Below w.heap.size w w4) := Lib.hid (below_via (by repeat (first | exact B3.out | refine Below.drew ?_ | refine below_drewN ?_ _ | refine Below.setCell ?_ (by simp; try omega) _ | refine Below.alloc ?_ (by simp; try omega) _)) hb4)
  have z4 := B4.out.size
  rcases own_cases ho4 with ⟨h1, _⟩ | ⟨g4, cap4, rfl, hg1, hg2, hg3, hg4, -⟩
  · cases h1
  have k4 := (cell_row ho4 rfl 0 (by decide)).1
  clear hb4 ho4 B3 z3
  go_wp2_with fail
  refine (parse_is 65536 _ _ _ _ pn5 _).mono ?_
  rintro e w5 ⟨v5, rfl, -, hb5⟩
  have k5 : w5.cell? ⟨g4, 0, none⟩ = some (.int .u32 65535) := by rw [hb5.cell (p := ⟨g4, 0, none⟩) hg2]; exact k4
  have B5 : Hid (Below w.heap.size w w5) := Lib.hid (below_via (by repeat (first | exact B4.out | refine Below.drew ?_ | refine below_drewN ?_ _ | refine Below.setCell ?_ (by simp; try omega) _ | refine Below.alloc ?_ (by simp; try omega) _)) hb5)
  have z5 := B5.out.size
  have q5 : g4 < w5.heap.size := by have := hb5.size; omega
  clear hb5 B4 z4 k4 hg2
  go_wp2_with fail
  refine (parse_is 0 _ _ _ _ pn6 _).mono ?_
  rintro e w6 ⟨v6, rfl, -, hb6⟩
  have k6 : w6.cell? ⟨g4, 0, none⟩ = some (.int .u32 65535) := by rw [hb6.cell (p := ⟨g4, 0, none⟩) q5]; exact k5
  have B6 : Hid (Below w.heap.size w w6) := Lib.hid (below_via (by repeat (first | exact B5.out | refine Below.drew ?_ | refine below_drewN ?_ _ | refine Below.setCell ?_ (by simp; try omega) _ | refine Below.alloc ?_ (by simp; try omega) _)) hb6)
  have z6 := B6.out.size
  have q6 : g4 < w6.heap.size := by have := hb6.size; omega
  clear hb6 B5 z5 k5 q5
  go_wp2_with fail
  refine (group_no (-1) (.inl (by omega)) _ _).mono ?_
  rintro e w7 ⟨rfl, rfl⟩
  go_wp2_with fail
  refine (group_no 65537 (.inr (by omega)) _ _).mono ?_
  rintro e w7 ⟨rfl, rfl⟩
  go_wp2_with fail
  refine (group_one _ _ _ (heap_alloc_new w6 _)).mono ?_
  rintro e w7 ⟨rfl, hb7⟩
  have k7 : w7.cell? ⟨g4, 0, none⟩ = some (.int .u32 65535) := by
    rw [hb7.cell (p := ⟨g4, 0, none⟩) (by simp; omega), World.cell?_of_block (w := w6) (Below.heap_alloc w6 _ g4 q6)]; exact k6
  have B7 : Hid (Below w.heap.size w w7) := Lib.hid (below_via (B6.out.alloc z6 _) hb7)
  have z7 := B7.out.size
  have q7 : g4 < w7.heap.size := by have := hb7.size; simp at this; omega
  clear hb7 B6 z6 k6 q6
  go_wp2_with fail
  refine (group_none _).mono ?_
  rintro e w8 ⟨a8, c8, rfl, hb8⟩
  have k8 : w8.cell? ⟨g4, 0, none⟩ = some (.int .u32 65535) := by rw [hb8.cell (p := ⟨g4, 0, none⟩) q7]; exact k7
  have B8 : Hid (Below w.heap.size w w8) := Lib.hid (below_via (by repeat (first | exact B7.out | refine Below.drew ?_ | refine below_drewN ?_ _ | refine Below.setCell ?_ (by simp; try omega) _ | refine Below.alloc ?_ (by simp; try omega) _)) hb8)
  have z8 := B8.out.size
  have q8 : g4 < w8.heap.size := by have := hb8.size; omega
  clear hb8 B7 z7 k7 q7
  go_wp2_with fail
  refine (show_one _ _ _ (heap_alloc_new w8 _)).mono ?_
  rintro e w9 ⟨rfl, hb9⟩
  have k9 : w9.cell? ⟨g4, 0, none⟩ = some (.int .u32 65535) := by
    rw [hb9.cell (p := ⟨g4, 0, none⟩) (by simp; omega), World.cell?_of_block (w := w8) (Below.heap_alloc w8 _ g4 q8)]; exact k8
  have B9 : Hid (Below w.heap.size w w9) := Lib.hid (below_via (B8.out.alloc z8 _) hb9)
  have z9 := B9.out.size
  have q9 : g4 < w9.heap.size := by have := hb9.size; simp at this; omega
  clear hb9 B8 z8 k8 q8
  obtain ⟨w10, big, hm1, hm2, hsz, hzz, hb10⟩ := big_string w9 16777217 (by omega)
  have hm1 : (Instr.makeSlice 53 (.int .i64 16777217) (.int .i64 16777217)).run Try.prog w9 = .ok (.slice (some ⟨w9.heap.size, 0, none⟩) 16777217 16777217) w10 := hm1
  have k10 : w10.cell? ⟨g4, 0, none⟩ = some (.int .u32 65535) := by rw [hb10.cell (p := ⟨g4, 0, none⟩) q9]; exact k9
  have B10 : Hid (Below w.heap.size w w10) := Lib.hid (below_via B9.out hb10)
  have z10 := B10.out.size
  have q10 : g4 < w10.heap.size := by have := hb10.size; omega
  have P7 : Hid (parseRes 1 big = ([], 0, 1)) := Lib.hid (pn7 big hsz)
  have P8 : Hid (parseRes 1 ((⟨#[35]⟩ : ByteArray) ++ big.extract 0 16777215) = ([], 0, 0)) := Lib.hid (hash_big big _ hzz (by omega))
  have M7 : Hid (mayRead 1 big = false) := Lib.hid (by unfold mayRead; simp; omega)
  have hsi : (big.size : Int) = 16777217 := by omega
  clear hb10 B9 z9 k9 q9 hsz hzz
  go_wp2_with fail
  refine (parse_is 1 _ _ _ _ P7.out _).mono ?_
  rintro e w11 ⟨v11, rfl, -, hb11⟩
  have k11 : w11.cell? ⟨g4, 0, none⟩ = some (.int .u32 65535) := by rw [hb11.cell (p := ⟨g4, 0, none⟩) q10]; exact k10
  have B11 : Hid (Below w.heap.size w w11) := Lib.hid (below_via B10.out hb11)
  have z11 := B11.out.size
  have q11 : g4 < w11.heap.size := by have := hb11.size; omega
  clear hb11 B10 z10 k10 q10
  go_wp2_with fail
  refine (newReader_no _ _ M7.out _).mono ?_
  rintro e w12 ⟨rfl, rfl⟩
  go_wp2_with fail
  refine (parse_is 1 _ _ _ _ P8.out _).mono ?_
  rintro e w12 ⟨v12, rfl, -, hb12⟩
  have k12 : w12.cell? ⟨g4, 0, none⟩ = some (.int .u32 65535) := by rw [hb12.cell (p := ⟨g4, 0, none⟩) q11]; exact k11
  have B12 : Hid (Below w.heap.size w w12) := Lib.hid (below_via B11.out hb12)
  have z12 := B12.out.size
  clear hb12 B11 z11 k11
  go_wp2_with fail
  refine (line_nil _).mono ?_
  rintro e w13 ⟨rfl, rfl⟩
  go_wp2_with fail
  refine (show_nil _).mono ?_
  rintro e w13 ⟨rfl, hb13⟩
  have B13 : Hid (Below w.heap.size w w13) := Lib.hid (below_via B12.out hb13)
  have z13 := B13.out.size
  clear hb13 B12 z12 k12
  go_wp2_with fail
  refine (awake_any _).mono ?_
  rintro e w14 ⟨rfl, hb14⟩
  have B14 : Hid (Below w.heap.size w w14) := Lib.hid (below_via B13.out hb14)
  clear hb14 B13 z13
  go_wp2_with fail
  go_ret
  exact ⟨rfl, B14.out⟩
end Go.Proofs.Ythaicpbdlhkkkaa.edg
