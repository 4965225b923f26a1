/- Own lemmas, laid together. -/
import Derived.Test.YtflnpcgnenhogaaGreatDoorBk12
import Derived.Laws.OwnMore
import Derived.StillTailTactics
namespace Go.Proofs.YtflnpcgnenhogaaGreatDoor.bit
open Go.RowKit Go.Proofs.YtflnpcgnenhogaaGreatDoor.own

theorem nvs_set (l : List Nat) (q b : Nat) : (nvs l).set q (.int .u8 (b : Int)) = nvs (l.set q b) := by
 unfold nvs
 rw [List.map_set]
theorem nvs_zeros (n : Nat) : (madeCells (Value.int .u8 0).cells (n * 1)).toList = nvs (List.replicate n 0) := by
 have e : (Value.int .u8 0).cells = #[.int .u8 0] := rfl
 rw [e, toList_madeCells_one]
 simp [nvs]
theorem bytes_txt {w : World} {base g cap n : Nat} {L : List Nat} (ho : w.ownsRow base 5 1 (.slice (some ⟨g, 0, none⟩) n cap) n (nvs L)) (hL : ∀ x ∈ L, x < 256) :
  (convert 139 9 (.slice (some ⟨g, 0, none⟩) n cap)).run Tryz.prog w = .ok (.string (txt L)) w := by
 have hn : L.length = n := by have := ho.1; simpa [nvs] using this
 have hc := run_convert_bytes_back (P := Tryz.prog) w 139 9 5 ⟨g, 0, none⟩ cap (L.map UInt8.ofNat) (by kernel_rfl) (by kernel_rfl) (by kernel_rfl) (fun j hj => by
  have hj' : j < L.length := by simpa using hj
  rw [Addr.add_lit, Nat.zero_add, ho.cellAt j (by omega)]
  have hlt := hL _ (List.getElem_mem hj')
  simp [nvs, hj']
  omega)
 rw [List.length_map, hn] at hc
 exact hc
theorem bls_cell {w : World} {base : Nat} {v : Value} {l : Bits} (h : w.ownsRow base 4 1 v l.length (bls l)) :
  ∃ a cap, v = .slice a l.length cap ∧ ∀ k (hk : k < l.length), ∃ g, a = some ⟨g, 0, none⟩ ∧ g < w.heap.size ∧ w.cell? ⟨g, k, none⟩ = some (.bool l[k]) := by
 rcases h.2 with ⟨hv, h0⟩ | ⟨g, cap, cur, hv, hb, hg, hn, hc, hcs, _⟩
 ·exact ⟨none, 0, by rw [hv, h0], fun k hk => by omega⟩
 ·subst hv
  refine ⟨_, _, rfl, fun k hk => ⟨g, rfl, lt_of_block hg, ?_⟩⟩
  rw [h.cellAt k (by omega)]
  simp [bls, hk]

set_option maxRecDepth 100000 in
set_option maxHeartbeats 3200000 in
theorem Text_any (w : World) (base : Nat) (v : Value) (l : Bits) (hl : l.length ≤ 1073741824) (h : w.ownsRow base 4 1 v l.length (bls l)) :
  Calls Tryz.prog 44 #[v] w fun e w' => e = .returned (.string (txt (packN l))) ∧ Below w.heap.size w w' := by
 obtain ⟨i0, hi, hz0, hz1, hz2⟩ := info_parts Tryz.infoByte
 obtain ⟨a0, cap0, hv, hc⟩ := bls_cell h
 have HC := Lib.hid hc
 clear hc
 obtain ⟨n, hn⟩ : ∃ n, l.length = n := ⟨_, rfl⟩
 have HN := Lib.hid hn
 obtain ⟨N, hN⟩ : ∃ N, (n + 7) / 8 = N := ⟨_, rfl⟩
 rw [hn] at hl hv
 have hNl : N ≤ 134217728 := by omega
 have hW64 : wrap64 (N : Int) = (N : Int) := IntWalk.wrap64_in _ (by omega)
 obtain ⟨w1, hrun, hown, hg⟩ := run_make_full w w.heap.size 139 5 i0 _ 1 Tryz.underlying139 hi hz0 hz1 .i64 .i64 N (by rw [hz2]; omega) (by simp only [maxLen]; omega) (Nat.le_refl _)
 rw [nvs_zeros] at hown
 have hb1 : Below w.heap.size w w1 := ⟨hg.os, hg.tape, hg.output, hg.size, fun k hk => hg.block k hk (by simp)⟩
 have T1 : ((n : Int) + 7).tdiv 8 = (N : Int) := by rw [Int.tdiv_eq_ediv_of_nonneg (by omega)]; omega
 have ST : Hid (List.replicate N 0 = packN (part l 0)) := Lib.hid (by rw [part_zero, hn, hN])
 rw [ST.out] at hown
 have HO := Lib.hid hown
 have HB := Lib.hid hb1
 have HNN := Lib.hid hN
 have hrun1 : (Instr.makeSlice 139 (.int .i64 (N : Int)) (.int .i64 (N : Int))).run Tryz.prog w = .ok (.slice (some ⟨w.heap.size, 0, none⟩) N N) w1 := hrun
 subst hv
 clear h hown hb1 hg hN hn hrun
 go_enter Tryz.func44, Tryz.ntmps44
 go_wp2_with fail
 clear hrun1
 go_loopw [4] (fun i wr => ∃ k : Nat, k ≤ n ∧ i = .int .i64 (k : Int) ∧ wr.ownsRow w.heap.size 5 1 (.slice (some ⟨w.heap.size, 0, none⟩) N N) N (nvs (packN (part l k))) ∧ Below w.heap.size w wr)
  (fun i _ => n - (intOf i).toNat)
 case atStart => exact ⟨0, Nat.zero_le _, rfl, HO.out, HB.out⟩
 case round =>
  obtain ⟨k, hk, rfl, hown, hb⟩ := hrel
  by_cases hlt : k < n
  ·obtain ⟨b, rfl, hbl, hcell⟩ := HC.out k (by rw [HN.out]; exact hlt)
   have hcell1 : wr.cell? ⟨b, k, none⟩ = some (.bool (l[k]'(by rw [HN.out]; exact hlt))) := by
    rw [World.cell?_of_block (w := w) (hb.block b hbl)]; exact hcell
   have PS := Lib.hid (part_step l k (by rw [HN.out]; exact hlt))
   have PG : Hid (∀ h', (part l k)[k]'h' = false) := Lib.hid (part_get l k (by rw [HN.out]; exact hlt))
   generalize (l[k]'(by rw [HN.out]; exact hlt)) = c at *
   clear hcell
   cases c
   ·have hown2 : wr.ownsRow w.heap.size 5 1 (.slice (some ⟨w.heap.size, 0, none⟩) N N) N (nvs (packN (part l (k + 1)))) := by
     rw [PS.out]; exact hown
    go_wp2_with fail
    go_roundw
    case rel => exact ⟨k + 1, by omega, by go_num, hown2, hb⟩
    case measure => simp [intOf]; try omega
   ·obtain ⟨q, hq⟩ : ∃ q, k / 8 = q := ⟨_, rfl⟩
    obtain ⟨t, ht⟩ : ∃ t, 7 - k % 8 = t := ⟨_, rfl⟩
    have hpl : (part l k).length = n := by rw [part_length l k (by rw [HN.out]; omega), HN.out]
    have hPl : (packN (part l k)).length = N := by rw [packN_length, hpl, HNN.out]
    have hqN : q < N := by have := HNN.out; omega
    obtain ⟨y, hy⟩ : ∃ y, (packN (part l k)).getD q 0 = y := ⟨_, rfl⟩
    have hyget : (packN (part l k))[q]'(by omega) = y := by
     rw [← hy, List.getD_eq_getElem?_getD, List.getElem?_eq_getElem (by omega)]; rfl
    have hy8 : y < 256 := by rw [← hyget]; exact packN_lt _ _ (List.getElem_mem _)
    have hcy : wr.cell? ⟨w.heap.size, q, none⟩ = some (.int .u8 (y : Int)) := by
     rw [hown.cellAt q (by omega)]
     have : q < (packN (part l k)).length := by omega
     simp [nvs, this, hyget]
    have hfy : ∀ j, wr.frozen? ⟨w.heap.size, j, none⟩ = false := fun j => hown.frozenAt j
    have hp8 : (2 : Nat) ^ t < 256 := by
     calc 2 ^ t ≤ 2 ^ 7 := Nat.pow_le_pow_right (by decide) (by omega)
      _ < 256 := by decide
    obtain ⟨pw, hpw⟩ : ∃ pw, 2 ^ t = pw := ⟨_, rfl⟩
    rw [hpw] at hp8
    have O8 : bits .or .u8 (y : Int) (pw : Int) = ((y ||| pw : Nat) : Int) := or8 y pw hy8 hp8
    have W8 : IntKind.u8.wrap ((2 : Int) ^ t) = (pw : Int) := by
     rw [IntKind.wrap_u8, show ((2 : Int) ^ t) = (pw : Int) by rw [← hpw]; simp]; omega
    have Q1 : (k : Int).tdiv 8 = (q : Int) := by rw [Int.tdiv_eq_ediv_of_nonneg (by omega)]; omega
    have R0 : (k : Int).tmod 8 = ((k % 8 : Nat) : Int) := by rw [Int.tmod_eq_emod_of_nonneg (by omega)]; omega
    have R1 : IntKind.i64.wrap (7 - ((k % 8 : Nat) : Int)) = (t : Int) := by rw [IntWalk.i64_in _ (by omega)]; omega
    have Wq : IntKind.i64.wrap (q : Int) = (q : Int) := IntWalk.i64_in _ (by omega)
    obtain ⟨r8, hr8⟩ : ∃ r, k % 8 = r := ⟨_, rfl⟩
    rw [hr8] at R0 R1
    have PSN : Hid ((nvs (packN (part l k))).set q (.int .u8 ((y ||| pw : Nat) : Int)) = nvs (packN (part l (k + 1)))) := Lib.hid (by
     rw [nvs_set, PS.out, if_pos rfl, packN_set _ (part l k) k (Nat.le_refl _) (by rw [hpl]; exact hlt) (PG.out _), hq, hy, ht, hpw])
    have hqi : (q : Int) < (N : Int) := by omega
    have HQ := Lib.hid hq
    have HT := Lib.hid ht
    have ht7 : t ≤ 7 := by omega
    clear hyget hy hPl hpl hq ht hr8 hpw
    go_upto_region 6 with fail
    refine wp_region_still_tail 14 (by kernel_rfl) (by kernel_rfl) ?_
    simp only [List.take_succ_cons, List.take_zero, List.drop_succ_cons, List.drop_zero]
    repeat still_step
    try refine wpStill_nil ?_
    generalize hW : ({ heap := wr.heap, tape := wr.tape, drawn := wr.drawn + 1, os := wr.os, output := wr.output } : World) = W
    have hownW : W.ownsRow w.heap.size 5 1 (.slice (some ⟨w.heap.size, 0, none⟩) N N) N (nvs (packN (part l k))) := by rw [← hW]; exact hown.drew
    have hbW : Below w.heap.size w W := by rw [← hW]; exact hb.drew
    have hcW : W.cell? ⟨w.heap.size, q, none⟩ = some (.int .u8 (y : Int)) := by rw [← hW]; exact hcy
    have hfW : W.frozen? ⟨w.heap.size, q, none⟩ = false := hownW.frozenAt q
    clear hW hown hb hcy hfy hcell1
    have st := hownW.stored q (.int .u8 ((y ||| pw : Nat) : Int))
    rw [PSN.out] at st
    have hown2 := st.1
    have hb2 : Below w.heap.size w (W.setCell ⟨w.heap.size, q, none⟩ (.int .u8 ((y ||| pw : Nat) : Int))) := hbW.setCell (Nat.le_refl _) _
    clear st hownW
    go_wp2_with fail
    go_roundw
    case rel => exact ⟨k + 1, by omega, by go_num, hown2, hb2⟩
    case measure => simp [intOf]; try omega
  ·obtain rfl : k = n := by omega
   have R : Hid (packN (part l k) = packN l) := Lib.hid (by have h := part_all l; rw [HN.out] at h; rw [h])
   rw [R.out] at hown
   have hc := bytes_txt hown (packN_lt l)
   go_wp2_with fail
   go_ret
   exact ⟨rfl, hb⟩
end Go.Proofs.YtflnpcgnenhogaaGreatDoor.bit
namespace Go.Proofs.YtflnpcgnenhogaaGreatDoor.bit
open Go.RowKit Go.Proofs.YtflnpcgnenhogaaGreatDoor.own

set_option maxRecDepth 100000 in
set_option maxHeartbeats 3200000 in
theorem TextO_any (w : World) (a0 : Option Addr) (o cap0 : Nat) (l : Bits) (hl : l.length ≤ 1073741824) (hc : ∀ k (hk : k < l.length), ∃ g, a0 = some ⟨g, o, none⟩ ∧ g < w.heap.size ∧ w.cell? ⟨g, o + k, none⟩ = some (.bool l[k])) :
  Calls Tryz.prog 44 #[.slice a0 l.length cap0] w fun e w' => e = .returned (.string (txt (packN l))) ∧ Below w.heap.size w w' := by
 obtain ⟨i0, hi, hz0, hz1, hz2⟩ := info_parts Tryz.infoByte
 have HC := Lib.hid hc
 clear hc
 obtain ⟨n, hn⟩ : ∃ n, l.length = n := ⟨_, rfl⟩
 have HN := Lib.hid hn
 obtain ⟨N, hN⟩ : ∃ N, (n + 7) / 8 = N := ⟨_, rfl⟩
 rw [hn] at hl ⊢
 have hNl : N ≤ 134217728 := by omega
 have hW64 : wrap64 (N : Int) = (N : Int) := IntWalk.wrap64_in _ (by omega)
 obtain ⟨w1, hrun, hown, hg⟩ := run_make_full w w.heap.size 139 5 i0 _ 1 Tryz.underlying139 hi hz0 hz1 .i64 .i64 N (by rw [hz2]; omega) (by simp only [maxLen]; omega) (Nat.le_refl _)
 rw [nvs_zeros] at hown
 have hb1 : Below w.heap.size w w1 := ⟨hg.os, hg.tape, hg.output, hg.size, fun k hk => hg.block k hk (by simp)⟩
 have T1 : ((n : Int) + 7).tdiv 8 = (N : Int) := by rw [Int.tdiv_eq_ediv_of_nonneg (by omega)]; omega
 have ST : Hid (List.replicate N 0 = packN (part l 0)) := Lib.hid (by rw [part_zero, hn, hN])
 rw [ST.out] at hown
 have HO := Lib.hid hown
 have HB := Lib.hid hb1
 have HNN := Lib.hid hN
 have hrun1 : (Instr.makeSlice 139 (.int .i64 (N : Int)) (.int .i64 (N : Int))).run Tryz.prog w = .ok (.slice (some ⟨w.heap.size, 0, none⟩) N N) w1 := hrun
 clear hown hb1 hg hN hn hrun
 go_enter Tryz.func44, Tryz.ntmps44
 go_wp2_with fail
 clear hrun1
 go_loopw [4] (fun i wr => ∃ k : Nat, k ≤ n ∧ i = .int .i64 (k : Int) ∧ wr.ownsRow w.heap.size 5 1 (.slice (some ⟨w.heap.size, 0, none⟩) N N) N (nvs (packN (part l k))) ∧ Below w.heap.size w wr)
  (fun i _ => n - (intOf i).toNat)
 case atStart => exact ⟨0, Nat.zero_le _, rfl, HO.out, HB.out⟩
 case round =>
  obtain ⟨k, hk, rfl, hown, hb⟩ := hrel
  by_cases hlt : k < n
  ·obtain ⟨b, rfl, hbl, hcell⟩ := HC.out k (by rw [HN.out]; exact hlt)
   have hcell1 : wr.cell? ⟨b, o + k, none⟩ = some (.bool (l[k]'(by rw [HN.out]; exact hlt))) := by
    rw [World.cell?_of_block (w := w) (hb.block b hbl)]; exact hcell
   have PS := Lib.hid (part_step l k (by rw [HN.out]; exact hlt))
   have PG : Hid (∀ h', (part l k)[k]'h' = false) := Lib.hid (part_get l k (by rw [HN.out]; exact hlt))
   generalize (l[k]'(by rw [HN.out]; exact hlt)) = c at *
   clear hcell
   cases c
   ·have hown2 : wr.ownsRow w.heap.size 5 1 (.slice (some ⟨w.heap.size, 0, none⟩) N N) N (nvs (packN (part l (k + 1)))) := by
     rw [PS.out]; exact hown
    go_wp2_with fail
    go_roundw
    case rel => exact ⟨k + 1, by omega, by go_num, hown2, hb⟩
    case measure => simp [intOf]; try omega
   ·obtain ⟨q, hq⟩ : ∃ q, k / 8 = q := ⟨_, rfl⟩
    obtain ⟨t, ht⟩ : ∃ t, 7 - k % 8 = t := ⟨_, rfl⟩
    have hpl : (part l k).length = n := by rw [part_length l k (by rw [HN.out]; omega), HN.out]
    have hPl : (packN (part l k)).length = N := by rw [packN_length, hpl, HNN.out]
    have hqN : q < N := by have := HNN.out; omega
    obtain ⟨y, hy⟩ : ∃ y, (packN (part l k)).getD q 0 = y := ⟨_, rfl⟩
    have hyget : (packN (part l k))[q]'(by omega) = y := by
     rw [← hy, List.getD_eq_getElem?_getD, List.getElem?_eq_getElem (by omega)]; rfl
    have hy8 : y < 256 := by rw [← hyget]; exact packN_lt _ _ (List.getElem_mem _)
    have hcy : wr.cell? ⟨w.heap.size, q, none⟩ = some (.int .u8 (y : Int)) := by
     rw [hown.cellAt q (by omega)]
     have : q < (packN (part l k)).length := by omega
     simp [nvs, this, hyget]
    have hfy : ∀ j, wr.frozen? ⟨w.heap.size, j, none⟩ = false := fun j => hown.frozenAt j
    have hp8 : (2 : Nat) ^ t < 256 := by
     calc 2 ^ t ≤ 2 ^ 7 := Nat.pow_le_pow_right (by decide) (by omega)
      _ < 256 := by decide
    obtain ⟨pw, hpw⟩ : ∃ pw, 2 ^ t = pw := ⟨_, rfl⟩
    rw [hpw] at hp8
    have O8 : bits .or .u8 (y : Int) (pw : Int) = ((y ||| pw : Nat) : Int) := or8 y pw hy8 hp8
    have W8 : IntKind.u8.wrap ((2 : Int) ^ t) = (pw : Int) := by
     rw [IntKind.wrap_u8, show ((2 : Int) ^ t) = (pw : Int) by rw [← hpw]; simp]; omega
    have Q1 : (k : Int).tdiv 8 = (q : Int) := by rw [Int.tdiv_eq_ediv_of_nonneg (by omega)]; omega
    have R0 : (k : Int).tmod 8 = ((k % 8 : Nat) : Int) := by rw [Int.tmod_eq_emod_of_nonneg (by omega)]; omega
    have R1 : IntKind.i64.wrap (7 - ((k % 8 : Nat) : Int)) = (t : Int) := by rw [IntWalk.i64_in _ (by omega)]; omega
    have Wq : IntKind.i64.wrap (q : Int) = (q : Int) := IntWalk.i64_in _ (by omega)
    obtain ⟨r8, hr8⟩ : ∃ r, k % 8 = r := ⟨_, rfl⟩
    rw [hr8] at R0 R1
    have PSN : Hid ((nvs (packN (part l k))).set q (.int .u8 ((y ||| pw : Nat) : Int)) = nvs (packN (part l (k + 1)))) := Lib.hid (by
     rw [nvs_set, PS.out, if_pos rfl, packN_set _ (part l k) k (Nat.le_refl _) (by rw [hpl]; exact hlt) (PG.out _), hq, hy, ht, hpw])
    have hqi : (q : Int) < (N : Int) := by omega
    have HQ := Lib.hid hq
    have HT := Lib.hid ht
    have ht7 : t ≤ 7 := by omega
    clear hyget hy hPl hpl hq ht hr8 hpw
    go_upto_region 6 with fail
    refine wp_region_still_tail 14 (by kernel_rfl) (by kernel_rfl) ?_
    simp only [List.take_succ_cons, List.take_zero, List.drop_succ_cons, List.drop_zero]
    repeat still_step
    try refine wpStill_nil ?_
    generalize hW : ({ heap := wr.heap, tape := wr.tape, drawn := wr.drawn + 1, os := wr.os, output := wr.output } : World) = W
    have hownW : W.ownsRow w.heap.size 5 1 (.slice (some ⟨w.heap.size, 0, none⟩) N N) N (nvs (packN (part l k))) := by rw [← hW]; exact hown.drew
    have hbW : Below w.heap.size w W := by rw [← hW]; exact hb.drew
    have hcW : W.cell? ⟨w.heap.size, q, none⟩ = some (.int .u8 (y : Int)) := by rw [← hW]; exact hcy
    have hfW : W.frozen? ⟨w.heap.size, q, none⟩ = false := hownW.frozenAt q
    clear hW hown hb hcy hfy hcell1
    have st := hownW.stored q (.int .u8 ((y ||| pw : Nat) : Int))
    rw [PSN.out] at st
    have hown2 := st.1
    have hb2 : Below w.heap.size w (W.setCell ⟨w.heap.size, q, none⟩ (.int .u8 ((y ||| pw : Nat) : Int))) := hbW.setCell (Nat.le_refl _) _
    clear st hownW
    go_wp2_with fail
    go_roundw
    case rel => exact ⟨k + 1, by omega, by go_num, hown2, hb2⟩
    case measure => simp [intOf]; try omega
  ·obtain rfl : k = n := by omega
   have R : Hid (packN (part l k) = packN l) := Lib.hid (by have h := part_all l; rw [HN.out] at h; rw [h])
   rw [R.out] at hown
   have hc := bytes_txt hown (packN_lt l)
   go_wp2_with fail
   go_ret
   exact ⟨rfl, hb⟩
end Go.Proofs.YtflnpcgnenhogaaGreatDoor.bit
