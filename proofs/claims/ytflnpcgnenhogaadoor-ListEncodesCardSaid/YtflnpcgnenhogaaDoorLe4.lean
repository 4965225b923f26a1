/- Own lemmas, laid together. -/
import Derived.Test.YtflnpcgnenhogaaDoorLe3
import Derived.BigQuiet
import Derived.BigRegion
import Derived.Laws.BytesArg
import Derived.Laws.OwnMore
import Derived.StillTailTactics
import Derived.Deep.CutRange
import Derived.Test.YtflnpcgnenhogaaDoorShelf
import Derived.Deep.CutBlock
import Derived.Deep.RegionHeld3
import Derived.Lib.Zigzag
namespace Go.Proofs.YtflnpcgnenhogaaDoor.bit
open Go.RowKit Go.Proofs.YtflnpcgnenhogaaDoor.own

theorem Tryd.infoBool : (Tryd.prog.info? 4).map (fun i => (i.zero, i.size, i.bytes)) = some (some (.bool false), 1, 1) := by kernel_rfl
def bls (l : Bits) : List Value := l.map Value.bool
theorem bls_snoc (l : Bits) (b : Bool) : bls l ++ [.bool b] = bls (l ++ [b]) := by simp [bls]
theorem bls_append (a b : Bits) : bls a ++ bls b = bls (a ++ b) := by simp [bls]
theorem one_bool (b : Bool) : ∀ u ∈ [Value.bool b], u.oneCell' = true := by intro u hu; simp at hu; subst hu; rfl
theorem bls_one (l : Bits) : ∀ u ∈ bls l, u.oneCell' = true := by intro u hu; unfold bls at hu; obtain ⟨b, -, rfl⟩ := List.mem_map.1 hu; rfl
theorem below_grow {w wr w1 : World} {e : TypeId} {size n : Nat} {v : Value} {xs : List Value} {o : Obj} (hb : Below w.heap.size w wr) (hown : wr.ownsRow w.heap.size e size v n xs) (hg : (wr.alloc o).grownBy w1 v.ownBlock) : Below w.heap.size w w1 :=
  (hb.alloc hb.size _).grown hg (by have := hb.size; simp; omega) (fun k hk => (hown.lt k hk).1)

theorem bit_u64 (b k : Nat) (hb : b < 18446744073709551616) : (bits .and .u64 ((b : Int) / 2 ^ k) 1 == 1) = (b / 2 ^ k % 2 == 1) := by
  have e : ((b : Int) / 2 ^ k) = ((b / 2 ^ k : Nat) : Int) := by simp
  have hlt : b / 2 ^ k < 18446744073709551616 := Nat.lt_of_le_of_lt (Nat.div_le_self _ _) hb
  have h1 := (bits_nat .u64 64 (by decide) wraps_u64_64 (b / 2 ^ k) 1 hlt (by decide)).1
  rw [Nat.and_one_is_mod] at h1
  rw [e]
  show (bits .and .u64 ((b / 2 ^ k : Nat) : Int) ((1 : Nat) : Int) == 1) = _
  rw [h1]
  rcases Nat.mod_two_eq_zero_or_one (b / 2 ^ k) with h | h <;> rw [h] <;> rfl

def RowPost (l : Bits) (w : World) (e : Ending) (w' : World) : Prop :=
  ∃ v, e = .returned v ∧ w'.ownsRow w.heap.size 4 1 v l.length (bls l) ∧ Below w.heap.size w w'

/-! ### Of: a number in so many bits -/
set_option maxRecDepth 100000 in
set_option maxHeartbeats 1600000 in
theorem Of_any (n x : Nat) (hn : n ≤ 64) (hx : x < 18446744073709551616) (w : World) :
    Calls Tryd.prog 88 #[.int .u64 (x : Int), .int .i64 (n : Int)] w (RowPost (ofN n x) w) := by
  obtain ⟨i0, hi, hz0, hz1, hz2⟩ := info_parts Tryd.infoBool
  go_enter Tryd.func88, Tryd.ntmps88
  go_wp2_with fail
  go_loopw [5, 6] (fun v i wr => ∃ k : Nat, k ≤ n ∧ i = .int .i64 ((n : Int) - 1 - (k : Int)) ∧ wr.ownsRow w.heap.size 4 1 v k (bls (ofN k (x / 2 ^ (n - k)))) ∧ Below w.heap.size w wr)
    (fun _ i _ => (intOf i + 1).toNat)
  case atStart => exact ⟨0, Nat.zero_le _, by go_num, World.ownsRow_nil _ _ _ _, Below.refl _ _⟩
  case round =>
    obtain ⟨k, hk, rfl, hown, hb⟩ := hrel
    by_cases hlt : k < n
    · obtain ⟨j, hj⟩ : ∃ j : Nat, n - 1 - k = j := ⟨_, rfl⟩
      have ej : (n : Int) - 1 - (k : Int) = (j : Int) := by omega
      rw [ej]
      have EJ := Lib.hid ej
      clear ej
      obtain ⟨b, hbit⟩ : ∃ b, (x / 2 ^ j % 2 == 1) = b := ⟨_, rfl⟩
      have BT : (bits .and .u64 ((x : Int) / 2 ^ j) 1 == 1) = b := by rw [bit_u64 x j hx, hbit]
      have EX : Hid (bls (ofN k (x / 2 ^ (n - k))) ++ [.bool b] = bls (ofN (k + 1) (x / 2 ^ (n - (k + 1))))) := Lib.hid (by
        rw [bls_snoc, ← hbit]
        have h := ofN_snoc k j x
        rw [show n - (k + 1) = j by omega, h, show n - k = j + 1 by omega])
      have HJ := Lib.hid hj
      have hj64 : j ≤ 63 := by omega
      clear hbit hj
      go_wp2_with (at_builtin; refine wpList_append_own _ rfl _ _ 26 rfl w.heap.size 4 i0 (.bool false) 1 1 Tryd.underlying26 hi hz0 hz1 hz2 rfl (by decide) _ k _ rfl (hown.alloc _) ⟨wr.heap.size, 0, none⟩ 1 1 [.bool b] rfl rfl ?c1 (one_bool b) ?c3 ?c4 ?c5 ?_)
      case c1 => exact cell_one_new _ _ _
      case c3 => simp only [maxLen]; omega
      case c4 => omega
      case c5 => have := hb.size; simp; try omega
      intro v1 w1 hown1 hg1 _
      have hb1 := below_grow hb hown hg1
      rw [EX.out] at hown1
      clear hown hb hg1
      go_wp2_with fail
      go_roundw
      case rel => exact ⟨k + 1, by omega, by have := HJ.out; go_num, hown1, hb1⟩
      case measure => simp [intOf]; try omega
    · obtain rfl : k = n := by omega
      have EX : Hid (bls (ofN k (x / 2 ^ (k - k))) = bls (ofN k x)) := Lib.hid (by rw [Nat.sub_self]; simp)
      go_wp2_with fail
      go_ret
      rw [EX.out] at hown
      exact ⟨_, rfl, by rw [ofN_length]; exact hown, hb⟩

end Go.Proofs.YtflnpcgnenhogaaDoor.bit
namespace Go.Proofs.YtflnpcgnenhogaaDoor.bit
open Go.RowKit Go.Proofs.YtflnpcgnenhogaaDoor.own

theorem nvs_set (l : List Nat) (q b : Nat) : (nvs l).set q (.int .u8 (b : Int)) = nvs (l.set q b) := by
  unfold nvs
  rw [List.map_set]
theorem nvs_zeros (n : Nat) : (madeCells (Value.int .u8 0).cells (n * 1)).toList = nvs (List.replicate n 0) := by
  have e : (Value.int .u8 0).cells = #[.int .u8 0] := rfl
  rw [e, toList_madeCells_one]
  simp [nvs]
theorem bytes_txt {w : World} {base g cap n : Nat} {L : List Nat} (ho : w.ownsRow base 5 1 (.slice (some ⟨g, 0, none⟩) n cap) n (nvs L)) (hL : ∀ x ∈ L, x < 256) :
    (convert 78 9 (.slice (some ⟨g, 0, none⟩) n cap)).run Tryd.prog w = .ok (.string (txt L)) w := by
  have hn : L.length = n := by have := ho.1; simpa [nvs] using this
  have hc := run_convert_bytes_back (P := Tryd.prog) w 78 9 5 ⟨g, 0, none⟩ cap (L.map UInt8.ofNat) (by kernel_rfl) (by kernel_rfl) (by kernel_rfl) (fun j hj => by
    have hj' : j < L.length := by simpa using hj
    rw [Addr.add_lit, Nat.zero_add, ho.cellAt j (by omega)]
    have hlt := hL _ (List.getElem_mem hj')
    simp [nvs, hj']
    omega)
  rw [List.length_map, hn] at hc
  exact hc
theorem bls_cell {w : World} {base : Nat} {v : Value} {l : Bits} (h : w.ownsRow base 4 1 v l.length (bls l)) :
    ∃ a cap, v = .slice a l.length cap ∧ ∀ k (hk : k < l.length), ∃ g, a = some ⟨g, 0, none⟩ ∧ g < w.heap.size ∧ w.cell? ⟨g, k, none⟩ = some (.bool l[k]) := by
  rcases h.2 with ⟨hv, h0⟩ | ⟨g, cap, cur, hv, hb, hg, hn, hc, hcs, _⟩
  · exact ⟨none, 0, by rw [hv, h0], fun k hk => by omega⟩
  · subst hv
    refine ⟨_, _, rfl, fun k hk => ⟨g, rfl, lt_of_block hg, ?_⟩⟩
    rw [h.cellAt k (by omega)]
    simp [bls, hk]

set_option maxRecDepth 100000 in
set_option maxHeartbeats 3200000 in
theorem Text_any (w : World) (base : Nat) (v : Value) (l : Bits) (hl : l.length ≤ 1073741824) (h : w.ownsRow base 4 1 v l.length (bls l)) :
    Calls Tryd.prog 14 #[v] w fun e w' => e = .returned (.string (txt (packN l))) ∧ Below w.heap.size w w' := by
  obtain ⟨i0, hi, hz0, hz1, hz2⟩ := info_parts Tryd.infoByte
  obtain ⟨a0, cap0, hv, hc⟩ := bls_cell h
  have HC := Lib.hid hc
  clear hc
  obtain ⟨n, hn⟩ : ∃ n, l.length = n := ⟨_, rfl⟩
  have HN := Lib.hid hn
  obtain ⟨N, hN⟩ : ∃ N, (n + 7) / 8 = N := ⟨_, rfl⟩
  rw [hn] at hl hv
  have hNl : N ≤ 134217728 := by omega
  have hW64 : wrap64 (N : Int) = (N : Int) := IntWalk.wrap64_in _ (by omega)
  obtain ⟨w1, hrun, hown, hg⟩ := run_make_full w w.heap.size 78 5 i0 _ 1 Tryd.underlying78 hi hz0 hz1 .i64 .i64 N (by rw [hz2]; omega) (by simp only [maxLen]; omega) (Nat.le_refl _)
  rw [nvs_zeros] at hown
  have hb1 : Below w.heap.size w w1 := ⟨hg.os, hg.tape, hg.output, hg.size, fun k hk => hg.block k hk (by simp)⟩
  have T1 : ((n : Int) + 7).tdiv 8 = (N : Int) := by rw [Int.tdiv_eq_ediv_of_nonneg (by omega)]; omega
  have ST : Hid (List.replicate N 0 = packN (part l 0)) := Lib.hid (by rw [part_zero, hn, hN])
  rw [ST.out] at hown
  have HO := Lib.hid hown
  have HB := Lib.hid hb1
  have HNN := Lib.hid hN
  have hrun1 : (Instr.makeSlice 78 (.int .i64 (N : Int)) (.int .i64 (N : Int))).run Tryd.prog w = .ok (.slice (some ⟨w.heap.size, 0, none⟩) N N) w1 := hrun
  subst hv
  clear h hown hb1 hg hN hn hrun
  go_enter Tryd.func14, Tryd.ntmps14
  go_wp2_with fail
  clear hrun1
  go_loopw [4] (fun i wr => ∃ k : Nat, k ≤ n ∧ i = .int .i64 (k : Int) ∧ wr.ownsRow w.heap.size 5 1 (.slice (some ⟨w.heap.size, 0, none⟩) N N) N (nvs (packN (part l k))) ∧ Below w.heap.size w wr)
    (fun i _ => n - (intOf i).toNat)
  case atStart => exact ⟨0, Nat.zero_le _, rfl, HO.out, HB.out⟩
  case round =>
    obtain ⟨k, hk, rfl, hown, hb⟩ := hrel
    by_cases hlt : k < n
    · obtain ⟨b, rfl, hbl, hcell⟩ := HC.out k (by rw [HN.out]; exact hlt)
      have hcell1 : wr.cell? ⟨b, k, none⟩ = some (.bool (l[k]'(by rw [HN.out]; exact hlt))) := by
        rw [World.cell?_of_block (w := w) (hb.block b hbl)]; exact hcell
      have PS := Lib.hid (part_step l k (by rw [HN.out]; exact hlt))
      have PG : Hid (∀ h', (part l k)[k]'h' = false) := Lib.hid (part_get l k (by rw [HN.out]; exact hlt))
      generalize (l[k]'(by rw [HN.out]; exact hlt)) = c at *
      clear hcell
      cases c
      · have hown2 : wr.ownsRow w.heap.size 5 1 (.slice (some ⟨w.heap.size, 0, none⟩) N N) N (nvs (packN (part l (k + 1)))) := by
          rw [PS.out]; exact hown
        go_wp2_with fail
        go_roundw
        case rel => exact ⟨k + 1, by omega, by go_num, hown2, hb⟩
        case measure => simp [intOf]; try omega
      · obtain ⟨q, hq⟩ : ∃ q, k / 8 = q := ⟨_, rfl⟩
        obtain ⟨t, ht⟩ : ∃ t, 7 - k % 8 = t := ⟨_, rfl⟩
        have hpl : (part l k).length = n := by rw [part_length l k (by rw [HN.out]; omega), HN.out]
        have hPl : (packN (part l k)).length = N := by rw [packN_length, hpl, HNN.out]
        have hqN : q < N := by have := HNN.out; omega
        obtain ⟨y, hy⟩ : ∃ y, (packN (part l k)).getD q 0 = y := ⟨_, rfl⟩
        have hyget : (packN (part l k))[q]'(by omega) = y := by
          rw [← hy, List.getD_eq_getElem?_getD, List.getElem?_eq_getElem (by omega)]; rfl
        have hy8 : y < 256 := by rw [← hyget]; exact packN_lt _ _ (List.getElem_mem _)
        have hcy : wr.cell? ⟨w.heap.size, q, none⟩ = some (.int .u8 (y : Int)) := by
          rw [hown.cellAt q (by omega)]
          have : q < (packN (part l k)).length := by omega
          simp [nvs, this, hyget]
        have hfy : ∀ j, wr.frozen? ⟨w.heap.size, j, none⟩ = false := fun j => hown.frozenAt j
        have hp8 : (2 : Nat) ^ t < 256 := by
          calc 2 ^ t ≤ 2 ^ 7 := Nat.pow_le_pow_right (by decide) (by omega)
            _ < 256 := by decide
        obtain ⟨pw, hpw⟩ : ∃ pw, 2 ^ t = pw := ⟨_, rfl⟩
        rw [hpw] at hp8
        have O8 : bits .or .u8 (y : Int) (pw : Int) = ((y ||| pw : Nat) : Int) := or8 y pw hy8 hp8
        have W8 : IntKind.u8.wrap ((2 : Int) ^ t) = (pw : Int) := by
          rw [IntKind.wrap_u8, show ((2 : Int) ^ t) = (pw : Int) by rw [← hpw]; simp]; omega
        have Q1 : (k : Int).tdiv 8 = (q : Int) := by rw [Int.tdiv_eq_ediv_of_nonneg (by omega)]; omega
        have R0 : (k : Int).tmod 8 = ((k % 8 : Nat) : Int) := by rw [Int.tmod_eq_emod_of_nonneg (by omega)]; omega
        have R1 : IntKind.i64.wrap (7 - ((k % 8 : Nat) : Int)) = (t : Int) := by rw [IntWalk.i64_in _ (by omega)]; omega
        have Wq : IntKind.i64.wrap (q : Int) = (q : Int) := IntWalk.i64_in _ (by omega)
        obtain ⟨r8, hr8⟩ : ∃ r, k % 8 = r := ⟨_, rfl⟩
        rw [hr8] at R0 R1
        have PSN : Hid ((nvs (packN (part l k))).set q (.int .u8 ((y ||| pw : Nat) : Int)) = nvs (packN (part l (k + 1)))) := Lib.hid (by
          rw [nvs_set, PS.out, if_pos rfl, packN_set _ (part l k) k (Nat.le_refl _) (by rw [hpl]; exact hlt) (PG.out _), hq, hy, ht, hpw])
        have hqi : (q : Int) < (N : Int) := by omega
        have HQ := Lib.hid hq
        have HT := Lib.hid ht
        have ht7 : t ≤ 7 := by omega
        clear hyget hy hPl hpl hq ht hr8 hpw
        go_upto_region 6 with fail
        refine wp_region_still_tail 14 (by kernel_rfl) (by kernel_rfl) ?_
        simp only [List.take_succ_cons, List.take_zero, List.drop_succ_cons, List.drop_zero]
        repeat still_step
        try refine wpStill_nil ?_
        generalize hW : ({ heap := wr.heap, tape := wr.tape, drawn := wr.drawn + 1, os := wr.os, output := wr.output } : World) = W
        have hownW : W.ownsRow w.heap.size 5 1 (.slice (some ⟨w.heap.size, 0, none⟩) N N) N (nvs (packN (part l k))) := by rw [← hW]; exact hown.drew
        have hbW : Below w.heap.size w W := by rw [← hW]; exact hb.drew
        have hcW : W.cell? ⟨w.heap.size, q, none⟩ = some (.int .u8 (y : Int)) := by rw [← hW]; exact hcy
        have hfW : W.frozen? ⟨w.heap.size, q, none⟩ = false := hownW.frozenAt q
        clear hW hown hb hcy hfy hcell1
        have st := hownW.stored q (.int .u8 ((y ||| pw : Nat) : Int))
        rw [PSN.out] at st
        have hown2 := st.1
        have hb2 : Below w.heap.size w (W.setCell ⟨w.heap.size, q, none⟩ (.int .u8 ((y ||| pw : Nat) : Int))) := hbW.setCell (Nat.le_refl _) _
        clear st hownW
        go_wp2_with fail
        go_roundw
        case rel => exact ⟨k + 1, by omega, by go_num, hown2, hb2⟩
        case measure => simp [intOf]; try omega
    · obtain rfl : k = n := by omega
      have R : Hid (packN (part l k) = packN l) := Lib.hid (by have h := part_all l; rw [HN.out] at h; rw [h])
      rw [R.out] at hown
      have hc := bytes_txt hown (packN_lt l)
      go_wp2_with fail
      go_ret
      exact ⟨rfl, hb⟩
end Go.Proofs.YtflnpcgnenhogaaDoor.bit
namespace Go.Proofs.YtflnpcgnenhogaaDoor.ls
open Go.Proofs.YtflnpcgnenhogaaDoor.bit

inductive Cd where
  | una
  | gam
  | zet (k : Nat)
def Cd.ok : Cd → Prop
  | .zet k => 1 ≤ k ∧ k ≤ 16
  | _ => True
def Cd.most : Cd → Nat
  | .una => 65535
  | _ => 281474976710654
def un (v : Nat) : Bits := List.replicate v false ++ [true]
/-- how many bits numbers below k have -/
def clog (k : Nat) : Nat := if k ≤ 1 then 0 else Nat.log2 (k - 1) + 1
def mini (v k : Nat) : Bits := if v < 2 ^ clog k - k then ofN (clog k - 1) v else ofN (clog k) (v + (2 ^ clog k - k))
/-- a number's bits in a code -/
def cb : Cd → Nat → Bits
  | .una, v => un v
  | .gam, v => un (Nat.log2 (v + 1)) ++ ofN (Nat.log2 (v + 1)) (v + 1 - 2 ^ Nat.log2 (v + 1))
  | .zet k, v => un (Nat.log2 (v + 1) / k) ++ mini (v + 1 - 2 ^ (Nat.log2 (v + 1) / k * k)) (2 ^ ((Nat.log2 (v + 1) / k + 1) * k) - 2 ^ (Nat.log2 (v + 1) / k * k))

theorem clog_le {k : Nat} : k ≤ 2 ^ clog k := by
  unfold clog
  split
  · simp; omega
  · have := @Nat.lt_log2_self (k - 1)
    omega
theorem clog_lt {k : Nat} (h : 2 ≤ k) : 0 < clog k ∧ 2 ^ (clog k - 1) < k := by
  unfold clog
  rw [if_neg (by omega)]
  have := Nat.log2_self_le (n := k - 1) (by omega)
  simp only [Nat.add_sub_cancel]
  omega
theorem clog_one {k : Nat} (h : k ≤ 1) : clog k = 0 := if_pos h
theorem pow_clog {k : Nat} (h : 2 ≤ k) : 2 ^ clog k = 2 * 2 ^ (clog k - 1) := by
  have := clog_lt h
  obtain ⟨s, hs⟩ : ∃ s, clog k = s + 1 := ⟨clog k - 1, by omega⟩
  rw [hs, Nat.add_sub_cancel, Nat.pow_succ]
  omega
/-- bits numbers below 2^b have -/
theorem clog_pow {k b : Nat} (h : k ≤ 2 ^ b) : clog k ≤ b := by
  by_cases h2 : 2 ≤ k
  · have h3 := clog_lt h2
    rcases Nat.lt_or_ge b (clog k) with hlt | hge
    · have : 2 ^ b ≤ 2 ^ (clog k - 1) := Nat.pow_le_pow_right (by decide) (by omega)
      omega
    · exact hge
  · rw [clog_one (by omega)]; omega

/-- how many 0 stand ahead of a 1, of so many bits at most -/
def zer : Nat → Bits → Option Nat
  | 0, _ => none
  | _ + 1, [] => none
  | f + 1, b :: r => if b then some 0 else (zer f r).map (· + 1)
def mread (k : Nat) (B : Bits) : Option (Nat × Nat) :=
  if clog k = 0 then some (0, 0)
  else if B.length < clog k - 1 then none
  else if num (B.take (clog k - 1)) < 2 ^ clog k - k then some (num (B.take (clog k - 1)), clog k - 1)
  else if B.length < clog k then none
  else some (num (B.take (clog k)) - (2 ^ clog k - k), clog k)
/-- the number that bits say in a code, and how many of them -/
def rd : Cd → Bits → Option (Nat × Nat)
  | .una, B => (zer 65536 B).map fun n => (n, n + 1)
  | .gam, B => (zer 48 B).bind fun b => if (B.drop (b + 1)).length < b then none else some (num ((B.drop (b + 1)).take b) + 2 ^ b - 1, b + 1 + b)
  | .zet k, B => (zer (47 / k + 1) B).bind fun h => (mread (2 ^ ((h + 1) * k) - 2 ^ (h * k)) (B.drop (h + 1))).bind fun q =>
      if q.1 + 2 ^ (h * k) - 1 ≤ 281474976710654 then some (q.1 + 2 ^ (h * k) - 1, h + 1 + q.2) else none

/-- what a code's bits say, great or not -/
def rd0 : Cd → Bits → Option (Nat × Nat)
  | .una, B => (zer 65536 B).map fun n => (n, n + 1)
  | .gam, B => (zer 48 B).bind fun b => if (B.drop (b + 1)).length < b then none else some (num ((B.drop (b + 1)).take b) + 2 ^ b - 1, b + 1 + b)
  | .zet k, B => (zer (47 / k + 1) B).bind fun h => (mread (2 ^ ((h + 1) * k) - 2 ^ (h * k)) (B.drop (h + 1))).map fun q => (q.1 + 2 ^ (h * k) - 1, h + 1 + q.2)
theorem cb_una (v : Nat) : cb .una v = un v := rfl
theorem cb_gam (v : Nat) : cb .gam v = un (Nat.log2 (v + 1)) ++ ofN (Nat.log2 (v + 1)) (v + 1 - 2 ^ Nat.log2 (v + 1)) := rfl
theorem cb_zet (k v : Nat) : cb (.zet k) v = un (Nat.log2 (v + 1) / k) ++ mini (v + 1 - 2 ^ (Nat.log2 (v + 1) / k * k)) (2 ^ ((Nat.log2 (v + 1) / k + 1) * k) - 2 ^ (Nat.log2 (v + 1) / k * k)) := rfl
theorem rd_una (B : Bits) : rd .una B = (zer 65536 B).map fun n => (n, n + 1) := rfl
theorem rd_gam (B : Bits) : rd .gam B = (zer 48 B).bind fun b => if (B.drop (b + 1)).length < b then none else some (num ((B.drop (b + 1)).take b) + 2 ^ b - 1, b + 1 + b) := rfl
theorem rd_zet (k : Nat) (B : Bits) : rd (.zet k) B = (zer (47 / k + 1) B).bind fun h => (mread (2 ^ ((h + 1) * k) - 2 ^ (h * k)) (B.drop (h + 1))).bind fun q =>
      if q.1 + 2 ^ (h * k) - 1 ≤ 281474976710654 then some (q.1 + 2 ^ (h * k) - 1, h + 1 + q.2) else none := rfl
theorem un_length (v : Nat) : (un v).length = v + 1 := by simp [un]
theorem zer_bound : ∀ (f : Nat) (B : Bits) (n : Nat), zer f B = some n → n < f ∧ n + 1 ≤ B.length
  | 0, B, n, h => by simp [zer] at h
  | f + 1, [], n, h => by simp [zer] at h
  | f + 1, b :: r, n, h => by
    rw [zer] at h
    by_cases hb : b = true
    · rw [if_pos hb] at h
      have := Option.some.inj h
      subst this
      simp
    · rw [if_neg hb] at h
      cases hz : zer f r with
      | none => rw [hz] at h; cases h
      | some m =>
        rw [hz] at h
        have h1 := zer_bound f r m hz
        have h2 : m + 1 = n := Option.some.inj h
        simp only [List.length_cons]
        omega
theorem mini_length (v k : Nat) : (mini v k).length = if v < 2 ^ clog k - k then clog k - 1 else clog k := by
  unfold mini
  split <;> rw [ofN_length]
theorem mini_le (v k : Nat) : (mini v k).length ≤ clog k := by
  rw [mini_length]
  split <;> omega
theorem mread_bound {k : Nat} (hk : 0 < k) {B : Bits} {v n : Nat} (h : mread k B = some (v, n)) : v < k ∧ n ≤ B.length := by
  unfold mread at h
  have c3 := @clog_le k
  split at h
  · rename_i h0
    have := Option.some.inj h
    injection this with h1 h2
    omega
  · rename_i h0
    split at h
    · cases h
    · rename_i hl
      split at h
      · rename_i hm
        have := Option.some.inj h
        injection this with h1 h2
        have h3 : 2 ≤ k := by
          rcases Nat.lt_or_ge k 2 with a | a
          · exact absurd (clog_one (by omega)) h0
          · exact a
        have c1 := clog_lt h3
        have c2 := pow_clog h3
        omega
      · split at h
        · cases h
        · rename_i hl2
          have := Option.some.inj h
          injection this with h1 h2
          have hn := num_lt (B.take (clog k))
          rw [List.length_take, Nat.min_eq_left (by omega)] at hn
          omega
theorem pow48 {a : Nat} (h : a ≤ 48) : 2 ^ a ≤ 281474976710656 := by
  have : (2 : Nat) ^ a ≤ 2 ^ 48 := Nat.pow_le_pow_right (by decide) h
  exact this
theorem log_lt {v b : Nat} (h : v + 1 < 2 ^ b) : Nat.log2 (v + 1) < b := by
  have h1 := Nat.log2_self_le (n := v + 1) (by omega)
  rcases Nat.lt_or_ge (Nat.log2 (v + 1)) b with a | a
  · exact a
  · have : 2 ^ b ≤ 2 ^ Nat.log2 (v + 1) := Nat.pow_le_pow_right (by decide) a
    omega
theorem zet_parts (k v : Nat) (hk : 1 ≤ k) : v + 1 - 2 ^ (Nat.log2 (v + 1) / k * k) < 2 ^ ((Nat.log2 (v + 1) / k + 1) * k) - 2 ^ (Nat.log2 (v + 1) / k * k) ∧ 2 ^ (Nat.log2 (v + 1) / k * k) ≤ v + 1 := by
  obtain ⟨b, hb⟩ : ∃ b, Nat.log2 (v + 1) = b := ⟨_, rfl⟩
  rw [hb]
  have h1 := Nat.log2_self_le (n := v + 1) (by omega)
  have h2 := @Nat.lt_log2_self (v + 1)
  rw [hb] at h1 h2
  have h3 : b / k * k ≤ b := Nat.div_mul_le_self b k
  have h4 : b + 1 ≤ (b / k + 1) * k := by rw [Nat.add_mul, Nat.one_mul]; have := Nat.mod_lt b (show 0 < k by omega); have := Nat.div_add_mod b k; rw [Nat.mul_comm] at this; omega
  have h5 : 2 ^ (b / k * k) ≤ 2 ^ b := Nat.pow_le_pow_right (by decide) h3
  have h6 : 2 ^ (b + 1) ≤ 2 ^ ((b / k + 1) * k) := Nat.pow_le_pow_right (by decide) h4
  omega
theorem rd_bound (c : Cd) (hc : c.ok) {B : Bits} {v n : Nat} (h : rd c B = some (v, n)) : v ≤ c.most ∧ n ≤ B.length := by
  cases c with
  | una =>
    rw [rd_una] at h
    cases hz : zer 65536 B with
    | none => rw [hz] at h; cases h
    | some m =>
      rw [hz] at h
      have h1 := zer_bound _ _ _ hz
      have h2 := Option.some.inj h
      injection h2 with h3 h4
      show v ≤ 65535 ∧ _
      omega
  | gam =>
    rw [rd_gam] at h
    cases hz : zer 48 B with
    | none => rw [hz] at h; cases h
    | some b =>
      rw [hz] at h
      have h1 := zer_bound _ _ _ hz
      simp only [Option.bind_some] at h
      split at h
      · cases h
      · rename_i hl
        rw [List.length_drop] at hl
        have h2 := Option.some.inj h
        injection h2 with h3 h4
        have h5 := num_lt ((B.drop (b + 1)).take b)
        have h6 : 2 ^ ((B.drop (b + 1)).take b).length ≤ 2 ^ b := Nat.pow_le_pow_right (by decide) (by rw [List.length_take]; omega)
        have h7 : 2 ^ (b + 1) ≤ 281474976710656 := pow48 (by omega)
        rw [Nat.pow_succ] at h7
        show v ≤ 281474976710654 ∧ _
        omega
  | zet k =>
    obtain ⟨hk1, hk2⟩ : 1 ≤ k ∧ k ≤ 16 := hc
    rw [rd_zet] at h
    cases hz : zer (47 / k + 1) B with
    | none => rw [hz] at h; cases h
    | some b =>
      rw [hz] at h
      have h1 := zer_bound _ _ _ hz
      simp only [Option.bind_some] at h
      cases hm : mread (2 ^ ((b + 1) * k) - 2 ^ (b * k)) (B.drop (b + 1)) with
      | none => rw [hm] at h; cases h
      | some q =>
        rw [hm] at h
        simp only [Option.bind_some] at h
        have hp : 2 ^ (b * k) < 2 ^ ((b + 1) * k) := Nat.pow_lt_pow_right (by decide) (by rw [Nat.add_mul]; omega)
        have h8 := mread_bound (v := q.1) (n := q.2) (by omega) hm
        rw [List.length_drop] at h8
        split at h
        · rename_i hle
          have h2 := Option.some.inj h
          injection h2 with h3 h4
          show v ≤ 281474976710654 ∧ _
          omega
        · cases h
theorem rd0_una (B : Bits) : rd0 .una B = (zer 65536 B).map fun n => (n, n + 1) := rfl
theorem rd0_gam (B : Bits) : rd0 .gam B = (zer 48 B).bind fun b => if (B.drop (b + 1)).length < b then none else some (num ((B.drop (b + 1)).take b) + 2 ^ b - 1, b + 1 + b) := rfl
theorem rd0_zet (k : Nat) (B : Bits) : rd0 (.zet k) B = (zer (47 / k + 1) B).bind fun h => (mread (2 ^ ((h + 1) * k) - 2 ^ (h * k)) (B.drop (h + 1))).map fun q => (q.1 + 2 ^ (h * k) - 1, h + 1 + q.2) := rfl
theorem rd_rd0 (c : Cd) (hc : c.ok) (B : Bits) : rd c B = (rd0 c B).bind fun q => if q.1 ≤ c.most then some q else none := by
  cases c with
  | una =>
    rw [rd0_una]
    cases hr : rd .una B with
    | none =>
      rw [rd_una] at hr
      rw [hr]; rfl
    | some q =>
      have h := rd_bound .una trivial (v := q.1) (n := q.2) hr
      rw [rd_una] at hr
      rw [hr, Option.bind_some, if_pos h.1]
  | gam =>
    rw [rd0_gam]
    cases hr : rd .gam B with
    | none =>
      rw [rd_gam] at hr
      rw [hr]; rfl
    | some q =>
      have h := rd_bound .gam trivial (v := q.1) (n := q.2) hr
      rw [rd_gam] at hr
      rw [hr, Option.bind_some, if_pos h.1]
  | zet k =>
    rw [rd0_zet, rd_zet]
    cases zer (47 / k + 1) B with
    | none => rfl
    | some h =>
      simp only [Option.bind_some]
      cases mread (2 ^ ((h + 1) * k) - 2 ^ (h * k)) (B.drop (h + 1)) with
      | none => rfl
      | some q => rfl
/-- how many bits numbers have that are not great -/
theorem cb_le (c : Cd) (hc : c.ok) (v : Nat) (hv : v < 262144) (hu : c = .una → v ≤ 16) : (cb c v).length ≤ 40 := by
  have hl : Nat.log2 (v + 1) < 19 := log_lt (by rw [show (2 : Nat) ^ 19 = 524288 from rfl]; omega)
  cases c with
  | una => have := hu rfl; rw [cb, un_length]; omega
  | gam => rw [cb, List.length_append, un_length, ofN_length]; omega
  | zet k =>
    obtain ⟨hk1, hk2⟩ : 1 ≤ k ∧ k ≤ 16 := hc
    rw [cb, List.length_append, un_length]
    obtain ⟨b, hb⟩ : ∃ b, Nat.log2 (v + 1) = b := ⟨_, rfl⟩
    rw [hb] at hl ⊢
    have h1 := mini_le (v + 1 - 2 ^ (b / k * k)) (2 ^ ((b / k + 1) * k) - 2 ^ (b / k * k))
    have h2 : clog (2 ^ ((b / k + 1) * k) - 2 ^ (b / k * k)) ≤ (b / k + 1) * k := clog_pow (Nat.sub_le _ _)
    have h3 : b / k + 1 + (b / k + 1) * k ≤ 40 := by
      have : k = 1 ∨ k = 2 ∨ k = 3 ∨ k = 4 ∨ k = 5 ∨ k = 6 ∨ k = 7 ∨ k = 8 ∨ k = 9 ∨ k = 10 ∨ k = 11 ∨ k = 12 ∨ k = 13 ∨ k = 14 ∨ k = 15 ∨ k = 16 := by omega
      rcases this with rfl | rfl | rfl | rfl | rfl | rfl | rfl | rfl | rfl | rfl | rfl | rfl | rfl | rfl | rfl | rfl <;> omega
    omega
end Go.Proofs.YtflnpcgnenhogaaDoor.ls
namespace Go.Proofs.YtflnpcgnenhogaaDoor.ls
open Go.RowKit Go.Proofs.YtflnpcgnenhogaaDoor.own Go.Proofs.YtflnpcgnenhogaaDoor.bit

def cdV : Cd → Value
  | .una => .agg #[.int .u8 0, .int .u64 0]
  | .gam => .agg #[.int .u8 1, .int .u64 0]
  | .zet k => .agg #[.int .u8 3, .int .u64 (k : Int)]

theorem below_alloc {w w1 : World} {o : Obj} (k : Below (w.alloc o).heap.size (w.alloc o) w1) : Below w.heap.size w w1 := ((Below.refl _ w).alloc (Nat.le_refl _) o).trans (k.mono (by simp))
theorem box_keeps {w w1 : World} {row : Array Value} {T : TypeId} (k : Below (w.alloc (.cells row T)).heap.size (w.alloc (.cells row T)) w1) : w1.heap[w.heap.size]? = some (.cells row T (0, 0)) := (k.block _ (by simp)).trans (heap_alloc_new w _)

theorem check_any (c : Cd) (hc : c.ok) (w : World) : Calls Tryd.prog 69 #[cdV c] w fun e w' => e = .returned (.int .i64 0) ∧ Below w.heap.size w w' := by
  cases c with
  | una =>
    unfold cdV
    go_enter Tryd.func69, Tryd.ntmps69
    go_wp2_with fail
    go_ret
    exact ⟨rfl, (by repeat (first | exact Below.refl _ _ | refine below_drewN ?_ _ | refine Below.setCell ?_ (by simp; try omega) _ | refine Below.alloc ?_ (by simp; try omega) _))⟩
  | gam =>
    unfold cdV
    go_enter Tryd.func69, Tryd.ntmps69
    go_wp2_with fail
    go_ret
    exact ⟨rfl, (by repeat (first | exact Below.refl _ _ | refine below_drewN ?_ _ | refine Below.setCell ?_ (by simp; try omega) _ | refine Below.alloc ?_ (by simp; try omega) _))⟩
  | zet k =>
    obtain ⟨h1, h2⟩ : 1 ≤ k ∧ k ≤ 16 := hc
    have i1 : (1 : Int) ≤ (k : Int) := by omega
    have i2 : (k : Int) ≤ 16 := by omega
    unfold cdV
    go_enter Tryd.func69, Tryd.ntmps69
    go_wp2_with fail
    go_ret
    exact ⟨rfl, (by repeat (first | exact Below.refl _ _ | refine below_drewN ?_ _ | refine Below.setCell ?_ (by simp; try omega) _ | refine Below.alloc ?_ (by simp; try omega) _))⟩
theorem most_any (c : Cd) (hc : c.ok) (w : World) : Calls Tryd.prog 72 #[cdV c] w fun e w' => e = .returned (.int .u64 (c.most : Int)) ∧ Below w.heap.size w w' := by
  have CH := Lib.hid (fun W => check_any c hc W)
  cases c with
  | una =>
    unfold cdV at CH ⊢
    go_enter Tryd.func72, Tryd.ntmps72
    go_wp2_with fail
    refine (CH.out _).mono ?_
    rintro e w1 ⟨rfl, k1⟩
    have c1 : w1.cell? ⟨w.heap.size, 0, none⟩ = some (.int .u8 0) := by rw [cell_of_row _ _ _ _ _ _ (box_keeps k1)]; rfl
    have K : Hid (Below w.heap.size w w1) := Lib.hid (below_alloc k1)
    clear k1
    go_wp2_with fail
    go_ret
    exact ⟨rfl, K.out⟩
  | gam =>
    unfold cdV at CH ⊢
    go_enter Tryd.func72, Tryd.ntmps72
    go_wp2_with fail
    refine (CH.out _).mono ?_
    rintro e w1 ⟨rfl, k1⟩
    have c1 : w1.cell? ⟨w.heap.size, 0, none⟩ = some (.int .u8 1) := by rw [cell_of_row _ _ _ _ _ _ (box_keeps k1)]; rfl
    have K : Hid (Below w.heap.size w w1) := Lib.hid (below_alloc k1)
    clear k1
    go_wp2_with fail
    go_ret
    exact ⟨rfl, K.out⟩
  | zet k =>
    unfold cdV at CH ⊢
    go_enter Tryd.func72, Tryd.ntmps72
    go_wp2_with fail
    refine (CH.out _).mono ?_
    rintro e w1 ⟨rfl, k1⟩
    have c1 : w1.cell? ⟨w.heap.size, 0, none⟩ = some (.int .u8 3) := by rw [cell_of_row _ _ _ _ _ _ (box_keeps k1)]; rfl
    have K : Hid (Below w.heap.size w w1) := Lib.hid (below_alloc k1)
    clear k1
    go_wp2_with fail
    go_ret
    exact ⟨rfl, K.out⟩
theorem may_any (c : Cd) (hc : c.ok) (v : Nat) (w : World) : Calls Tryd.prog 59 #[cdV c, .int .u64 (v : Int)] w fun e w' => e = .returned (.bool (decide (v ≤ c.most))) ∧ Below w.heap.size w w' := by
  have CH := Lib.hid (fun W => check_any c hc W)
  have MO := Lib.hid (fun W => most_any c hc W)
  have MD : Hid (decide ((v : Int) ≤ (c.most : Int)) = decide (v ≤ c.most)) := Lib.hid (decide_eq_decide.2 (by omega))
  obtain ⟨kd, kk, hcd⟩ : ∃ kd kk, cdV c = .agg #[.int .u8 kd, .int .u64 kk] := by cases c <;> exact ⟨_, _, rfl⟩
  rw [hcd] at CH MO ⊢
  generalize c.most = m at MO MD ⊢
  clear hcd
  go_enter Tryd.func59, Tryd.ntmps59
  go_wp2_with fail
  refine (CH.out _).mono ?_
  rintro e w1 ⟨rfl, k1⟩
  have r1 := box_keeps k1
  have c0 : w1.cell? ⟨w.heap.size, 0, none⟩ = some (.int .u8 kd) := by rw [cell_of_row _ _ _ _ _ _ r1]; rfl
  have c1 : w1.cell? ⟨w.heap.size, 1, none⟩ = some (.int .u64 kk) := by rw [cell_of_row _ _ _ _ _ _ r1]; rfl
  have K : Hid (Below w.heap.size w w1) := Lib.hid (below_alloc k1)
  clear k1 r1
  go_wp2_with fail
  refine (MO.out _).mono ?_
  rintro e w2 ⟨rfl, k2⟩
  go_wp2_with fail
  go_ret
  exact ⟨rfl, K.out.trans (k2.mono K.out.size)⟩

/-- a number's piece in Minimal -/
def shP (v k : Nat) : Nat × Nat := if v < 2 ^ clog k - k then (v, clog k - 1) else (v + (2 ^ clog k - k), clog k)
theorem mini_shP (v k : Nat) : mini v k = ofN (shP v k).2 (shP v k).1 := by unfold mini shP; split <;> rfl
theorem aux_log2 : ∀ (f x : Nat), x < 2 ^ f → x ≠ 0 → Lib.bitLenAux f x = Nat.log2 x + 1
  | 0, x, h, h0 => by simp at h; omega
  | f + 1, x, h, h0 => by
    rw [Lib.bitLenAux, if_neg h0]
    by_cases h2 : 2 ≤ x
    · rw [aux_log2 f (x / 2) (by rw [Nat.pow_succ] at h; omega) (by omega), Nat.log2_def x, if_pos h2, Nat.add_comm]
    · obtain rfl : x = 1 := by omega
      have e : Lib.bitLenAux f (1 / 2) = 0 := by cases f <;> rfl
      rw [e]
      rfl
theorem log2_bitLen (x : Nat) (h0 : x ≠ 0) (h : x < 18446744073709551616) : Lib.bitLen x = Nat.log2 x + 1 := aux_log2 64 x h h0
theorem bitLen_clog (k : Nat) (hk : 1 ≤ k) (hk2 : k ≤ 9223372036854775808) : Lib.bitLen (k - 1) = clog k := by
  unfold clog
  by_cases h : k ≤ 1
  · rw [if_pos h, show k - 1 = 0 by omega]; rfl
  · rw [if_neg h, log2_bitLen _ (by omega) (by omega)]
theorem short_any (v k : Nat) (hv : v < k) (hk : k ≤ 9223372036854775808) (w : World) : Calls Tryd.prog 83 #[.int .u64 (v : Int), .int .u64 (k : Int)] w fun e w' =>
    e = .returned (.agg #[.int .u64 ((shP v k).1 : Int), .int .i64 ((shP v k).2 : Int)]) ∧ Below w.heap.size w w' := by
  have LN := Lib.hid (fun W => Tryd.bits_Len64 ((k - 1 : Nat) : Int) W (by omega) (by omega))
  rw [Int.toNat_natCast, bitLen_clog k (by omega) hk] at LN
  have e1 : IntKind.u64.wrap ((k : Int) - 1) = ((k - 1 : Nat) : Int) := by rw [IntKind.wrap_u64]; omega
  have h1 := @clog_le k
  have h2 : clog k ≤ 63 := clog_pow (by rw [show (2 : Nat) ^ 63 = 9223372036854775808 from rfl]; exact hk)
  have h3 : (2 : Nat) ^ clog k ≤ 9223372036854775808 := by
    calc (2 : Nat) ^ clog k ≤ 2 ^ 63 := Nat.pow_le_pow_right (by decide) h2
      _ = 9223372036854775808 := rfl
  have h4 : 2 ≤ k → 2 ^ clog k < 2 * k ∧ 0 < clog k := fun h => by have a := pow_clog h; have b := clog_lt h; omega
  have h5 : k ≤ 1 → 2 ^ clog k = 1 := fun h => by rw [clog_one h]
  obtain ⟨P, hP⟩ : ∃ P, shP v k = P := ⟨_, rfl⟩
  have SH := Lib.hid hP
  unfold shP at SH
  rw [hP]
  obtain ⟨s, hs⟩ : ∃ s, clog k = s := ⟨_, rfl⟩
  rw [hs] at LN h1 h2 h3 h4 h5 SH
  obtain ⟨pw, hpw⟩ : ∃ pw, 2 ^ s = pw := ⟨_, rfl⟩
  rw [hpw] at h1 h3 h4 h5 SH
  have e2 : IntKind.u64.wrap (2 ^ s) = (pw : Int) := by rw [show ((2 : Int) ^ s) = (pw : Int) by rw [← hpw]; simp, IntKind.wrap_u64]; omega
  have e3 : IntKind.u64.wrap ((pw : Int) - (k : Int)) = ((pw - k : Nat) : Int) := by rw [IntKind.wrap_u64]; omega
  have hs0 : (0 : Int) ≤ (s : Int) := by omega
  have hs64 : min s 64 = s := by omega
  clear hP hs hpw
  by_cases hm : v < pw - k
  · have hlt : ¬ (((pw - k : Nat) : Int) ≤ (v : Int)) := by omega
    have e4 : IntKind.i64.wrap ((s : Int) - 1) = ((s - 1 : Nat) : Int) := by rw [IntWalk.i64_in _ (by omega)]; omega
    have SH2 := SH.out
    rw [if_pos hm] at SH2
    subst SH2
    clear SH hm h1 h2 h3 h4 h5
    go_enter Tryd.func83, Tryd.ntmps83
    go_wp2_with fail
    refine (LN.out _).mono ?_
    rintro e w1 ⟨rfl, rfl⟩
    go_wp2_with fail
    refine bodyPost_ret (v := .agg #[.int .u64 (v : Int), .int .i64 ((s - 1 : Nat) : Int)]) (by simp [results, Tryd.results83, go_sem, *]) rfl ⟨rfl, ?_⟩
    exact (by repeat (first | exact Below.refl _ _ | refine below_drewN ?_ _ | refine Below.setCell ?_ (by simp; try omega) _ | refine Below.alloc ?_ (by simp; try omega) _))
  · have hlt : (((pw - k : Nat) : Int) ≤ (v : Int)) := by omega
    have e4 : IntKind.u64.wrap ((v : Int) + ((pw - k : Nat) : Int)) = ((v + (pw - k) : Nat) : Int) := by rw [IntKind.wrap_u64]; omega
    have SH2 := SH.out
    rw [if_neg hm] at SH2
    subst SH2
    clear SH hm h1 h2 h3 h4 h5
    go_enter Tryd.func83, Tryd.ntmps83
    go_wp2_with fail
    refine (LN.out _).mono ?_
    rintro e w1 ⟨rfl, rfl⟩
    go_wp2_with fail
    refine bodyPost_ret (v := .agg #[.int .u64 ((v + (pw - k) : Nat) : Int), .int .i64 (s : Int)]) (by simp [results, Tryd.results83, go_sem, *]) rfl ⟨rfl, ?_⟩
    exact (by repeat (first | exact Below.refl _ _ | refine below_drewN ?_ _ | refine Below.setCell ?_ (by simp; try omega) _ | refine Below.alloc ?_ (by simp; try omega) _))

/-- what stands behind a number's zeros -/
def pcs (c : Cd) (v : Nat) : Nat × (Nat × Nat) :=
  match c with
  | .una => (v, (0, 0))
  | .gam => (Nat.log2 (v + 1), (v + 1 - 2 ^ Nat.log2 (v + 1), Nat.log2 (v + 1)))
  | .zet k => (Nat.log2 (v + 1) / k, shP (v + 1 - 2 ^ (Nat.log2 (v + 1) / k * k)) (2 ^ ((Nat.log2 (v + 1) / k + 1) * k) - 2 ^ (Nat.log2 (v + 1) / k * k)))
theorem cb_pcs (c : Cd) (v : Nat) : cb c v = un (pcs c v).1 ++ ofN (pcs c v).2.2 (pcs c v).2.1 := by
  cases c with
  | una => rw [cb_una]; show un v = un v ++ []; rw [List.append_nil]
  | gam => rfl
  | zet k => rw [cb_zet, mini_shP]; rfl
def splV (q : Nat × (Nat × Nat)) : Value := .tuple #[.int .i64 (q.1 : Int), .agg #[.int .u64 (q.2.1 : Int), .int .i64 (q.2.2 : Int), .int .u64 0, .int .i64 0]]
end Go.Proofs.YtflnpcgnenhogaaDoor.ls
namespace Go.Proofs.YtflnpcgnenhogaaDoor.ls
open Go.RowKit Go.Proofs.YtflnpcgnenhogaaDoor.own Go.Proofs.YtflnpcgnenhogaaDoor.bit
theorem rows3 {w W : World} {a b c : Array Value} {A B C : TypeId} (h : ((w.alloc (.cells a A)).alloc (.cells b B)).alloc (.cells c C) = W) :
    W.heap[w.heap.size]? = some (.cells a A (0, 0)) ∧ W.heap[w.heap.size + 1]? = some (.cells b B (0, 0)) ∧ W.heap[w.heap.size + 1 + 1]? = some (.cells c C (0, 0)) ∧ Below w.heap.size w W := by
  subst h
  have r1 := heap_alloc_new w (.cells a A)
  have r2 := heap_alloc_new (w.alloc (.cells a A)) (.cells b B)
  have r3 := heap_alloc_new ((w.alloc (.cells a A)).alloc (.cells b B)) (.cells c C)
  have z1 : (w.alloc (.cells a A)).heap.size = w.heap.size + 1 := by simp
  have z2 : ((w.alloc (.cells a A)).alloc (.cells b B)).heap.size = w.heap.size + 1 + 1 := by simp
  rw [z1] at r2
  rw [z2] at r3
  refine ⟨?_, ?_, r3, (by repeat (first | exact Below.refl _ _ | refine below_drewN ?_ _ | refine Below.setCell ?_ (by simp; try omega) _ | refine Below.alloc ?_ (by simp; try omega) _))⟩
  · exact (Below.heap_alloc _ _ _ (by omega)).trans ((Below.heap_alloc _ _ _ (by omega)).trans r1)
  · exact (Below.heap_alloc _ _ _ (by omega)).trans r2
theorem st4 {w W : World} {sz : Nat} (K : Below sz w W) (a b c d : Value) : Below sz w ((((W.setCell ⟨sz + 1, 0, none⟩ a).setCell ⟨sz + 1, 1, none⟩ b).setCell ⟨sz + 1, 2, none⟩ c).setCell ⟨sz + 1, 3, none⟩ d) :=
  (((K.setCell (p := ⟨sz + 1, 0, none⟩) (Nat.le_succ sz) a).setCell (p := ⟨sz + 1, 1, none⟩) (Nat.le_succ sz) b).setCell (p := ⟨sz + 1, 2, none⟩) (Nat.le_succ sz) c).setCell (p := ⟨sz + 1, 3, none⟩) (Nat.le_succ sz) d
theorem int_nz (k : Nat) (h : 1 ≤ k) : ¬ (k : Int) = 0 := by omega
theorem u64_pow (m fr : Nat) (h : 2 ^ m = fr) (hl : fr ≤ 9223372036854775808) : IntKind.u64.wrap (2 ^ m) = (fr : Int) := by
  rw [show ((2 : Int) ^ m) = (fr : Int) by rw [← h]; simp, IntKind.wrap_u64]; omega
theorem u64_mul (fr k tt : Nat) (h : fr * 2 ^ k = tt) (hl : tt ≤ 9223372036854775808) : IntKind.u64.wrap ((fr : Int) * 2 ^ k) = (tt : Int) := by
  rw [show ((fr : Int) * 2 ^ k) = (tt : Int) by rw [← h]; simp, IntKind.wrap_u64]; omega
theorem u64_sub (a b : Nat) (h : b ≤ a) (ha : a ≤ 9223372036854775808) : IntKind.u64.wrap ((a : Int) - (b : Int)) = ((a - b : Nat) : Int) := by rw [IntKind.wrap_u64]; omega
theorem u64_succ (v u : Nat) (h : v + 1 = u) (hu : u ≤ 9223372036854775808) : IntKind.u64.wrap ((v : Int) + 1) = (u : Int) := by rw [IntKind.wrap_u64]; omega
theorem i64_pred (b : Nat) (h : b ≤ 9223372036854775806) : IntKind.i64.wrap (((b + 1 : Nat) : Int) - 1) = (b : Int) := by rw [IntWalk.i64_in _ (by omega)]; omega
theorem w64_pred (b : Nat) (h : b ≤ 9223372036854775806) : wrap64 ((b : Int) + 1 - 1) = (b : Int) := by rw [IntWalk.wrap64_in _ (by omega)]; omega
theorem i64_mul (h k m : Nat) (e : h * k = m) (hm : m ≤ 64) : IntKind.i64.wrap ((h : Int) * (k : Int)) = (m : Int) := by
  rw [show ((h : Int) * (k : Int)) = (m : Int) by rw [← e]; simp, IntWalk.i64_in _ (by omega)]
theorem i64_nat (h : Nat) (e : h ≤ 9223372036854775807) : IntKind.i64.wrap (h : Int) = (h : Int) := IntWalk.i64_in _ (by omega)
theorem w64_nat (h : Nat) (e : h ≤ 9223372036854775807) : wrap64 (h : Int) = (h : Int) := IntWalk.wrap64_in _ (by omega)
theorem quo_nat (b k h : Nat) (e : b / k = h) : (b : Int).tdiv (k : Int) = (h : Int) := by rw [Int.tdiv_eq_ediv_of_nonneg (by omega), ← e]; simp
theorem pow63 {a : Nat} (h : a ≤ 63) : 2 ^ a ≤ 9223372036854775808 := by
  have : (2 : Nat) ^ a ≤ 2 ^ 63 := Nat.pow_le_pow_right (by decide) h
  exact this

set_option maxRecDepth 100000 in
set_option maxHeartbeats 1600000 in
theorem split_any (c : Cd) (hc : c.ok) (v : Nat) (hv : v ≤ c.most) (w : World) : Calls Tryd.prog 60 #[cdV c, .int .u64 (v : Int)] w fun e w' => e = .returned (splV (pcs c v)) ∧ Below w.heap.size w w' := by
  have hv48 : v ≤ 281474976710654 := by cases c <;> simp only [Cd.most] at hv <;> omega
  have hv63 : v ≤ 9223372036854775807 := by omega
  obtain ⟨b, hb⟩ : ∃ b, Nat.log2 (v + 1) = b := ⟨_, rfl⟩
  have h1 := Nat.log2_self_le (n := v + 1) (by omega)
  have h3 : Nat.log2 (v + 1) < 48 := log_lt (by rw [show (2 : Nat) ^ 48 = 281474976710656 from rfl]; omega)
  have LN := Lib.hid (fun W => Tryd.bits_Len64 ((v + 1 : Nat) : Int) W (by omega) (by omega))
  rw [Int.toNat_natCast, log2_bitLen (v + 1) (by omega) (by omega)] at LN
  rw [hb] at h1 h3 LN
  obtain ⟨pw, hpw⟩ : ∃ pw, 2 ^ b = pw := ⟨_, rfl⟩
  rw [hpw] at h1
  obtain ⟨u, hu⟩ : ∃ u, v + 1 = u := ⟨_, rfl⟩
  have hul : u ≤ 9223372036854775808 := by omega
  have hb63 : b ≤ 9223372036854775806 := by omega
  rw [hu] at h1 LN
  have e1 := u64_succ v u hu hul
  have e2 := i64_pred b hb63
  have e2' := w64_pred b hb63
  have e3 := u64_pow b pw hpw (Nat.le_trans h1 hul)
  have e4 := u64_sub u pw h1 hul
  have hb64 : min b 64 = b := Nat.min_eq_left (Nat.le_of_lt (Nat.lt_of_lt_of_le h3 (by decide)))
  cases c with
  | una =>
    unfold cdV pcs splV
    dsimp only
    have e5 := w64_nat v hv63
    have e6 := i64_nat v hv63
    clear hu hv hb hpw h1 h3 hv63 hb63 hul hv48
    go_enter Tryd.func60, Tryd.ntmps60
    go_wp2_with fail
    refine (LN.out _).mono ?_
    rintro e w1 ⟨rfl, rfl⟩
    go_upto_region 4 with fail
    generalize hW : World.alloc (World.alloc (World.alloc w _) _) _ = W
    obtain ⟨r1, r2, r3, kb⟩ := rows3 hW
    have KB := Lib.hid kb
    have a0 : W.cell? ⟨w.heap.size, 0, none⟩ = some (.int .u8 0) := by rw [cell_of_row _ _ _ _ _ _ r1]; rfl
    have a1 : W.cell? ⟨w.heap.size, 1, none⟩ = some (.int .u64 0) := by rw [cell_of_row _ _ _ _ _ _ r1]; rfl
    have b0 : W.cell? ⟨w.heap.size + 1, 0, none⟩ = some (.int .u64 0) := by rw [cell_of_row _ _ _ _ _ _ r2]; rfl
    have b1 : W.cell? ⟨w.heap.size + 1, 1, none⟩ = some (.int .i64 0) := by rw [cell_of_row _ _ _ _ _ _ r2]; rfl
    have b2 : W.cell? ⟨w.heap.size + 1, 2, none⟩ = some (.int .u64 0) := by rw [cell_of_row _ _ _ _ _ _ r2]; rfl
    have b3 : W.cell? ⟨w.heap.size + 1, 3, none⟩ = some (.int .i64 0) := by rw [cell_of_row _ _ _ _ _ _ r2]; rfl
    have bf : ∀ j, W.frozen? ⟨w.heap.size + 1, j, none⟩ = false := fun j => frozen_of_row W _ j _ _ r2
    have g0 : W.cell? ⟨w.heap.size + 1 + 1, 0, none⟩ = some (.int .u64 ((u - pw : Nat) : Int)) := by rw [cell_of_row _ _ _ _ _ _ r3]; rfl
    have g1 : W.cell? ⟨w.heap.size + 1 + 1, 1, none⟩ = some (.int .i64 (b : Int)) := by rw [cell_of_row _ _ _ _ _ _ r3]; rfl
    have HR2 := Lib.hid r2
    have hsl := lt_of_block r2
    clear hW kb r1 r2 r3
    obtain ⟨sz, hsz⟩ : ∃ k, w.heap.size = k := ⟨_, rfl⟩
    rw [hsz] at a0 a1 b0 b1 b2 b3 bf g0 g1 KB HR2 hsl ⊢
    go_wp2_with fail
    generalize hW4 : ({ W with drawn := W.drawn + 1 } : World) = W4
    have d0 : W4.cell? ⟨sz + 1, 0, none⟩ = some (.int .u64 0) := by rw [← hW4]; exact b0
    have d1 : W4.cell? ⟨sz + 1, 1, none⟩ = some (.int .i64 0) := by rw [← hW4]; exact b1
    have d2 : W4.cell? ⟨sz + 1, 2, none⟩ = some (.int .u64 0) := by rw [← hW4]; exact b2
    have d3 : W4.cell? ⟨sz + 1, 3, none⟩ = some (.int .i64 0) := by rw [← hW4]; exact b3
    have d4 : W4.cell? ⟨sz + 1 + 1, 0, none⟩ = some (.int .u64 ((u - pw : Nat) : Int)) := by rw [← hW4]; exact g0
    have d5 : W4.cell? ⟨sz + 1 + 1, 1, none⟩ = some (.int .i64 (b : Int)) := by rw [← hW4]; exact g1
    have df : ∀ j, W4.frozen? ⟨sz + 1, j, none⟩ = false := by rw [← hW4]; exact bf
    have K4 : Hid (Below sz w W4) := Lib.hid (by rw [← hW4]; exact KB.out.drew)
    refine wp_region_still_tail 4 (by kernel_rfl) (by kernel_rfl) ?_
    simp only [List.take_succ_cons, List.take_zero, List.drop_succ_cons, List.drop_zero]
    rw [hW4]
    clear hW4
    repeat still_step
    refine wpStill_nil ?_
    go_wp2_with fail
    refine bodyPost_ret (v := .tuple #[.int .i64 (v : Int), .agg #[.int .u64 0, .int .i64 0, .int .u64 0, .int .i64 0]]) (by simp [results, Tryd.results60, go_sem, *]) rfl ⟨rfl, ?_⟩
    rw [hsz]
    exact st4 K4.out _ _ _ _
  | gam =>
    unfold cdV pcs splV
    dsimp only
    rw [hb, hpw, hu]
    clear hu hv hb hpw h1 h3 hv63 hb63 hul hv48
    go_enter Tryd.func60, Tryd.ntmps60
    go_wp2_with fail
    refine (LN.out _).mono ?_
    rintro e w1 ⟨rfl, rfl⟩
    go_upto_region 4 with fail
    generalize hW : World.alloc (World.alloc (World.alloc w _) _) _ = W
    obtain ⟨r1, r2, r3, kb⟩ := rows3 hW
    have KB := Lib.hid kb
    have a0 : W.cell? ⟨w.heap.size, 0, none⟩ = some (.int .u8 1) := by rw [cell_of_row _ _ _ _ _ _ r1]; rfl
    have a1 : W.cell? ⟨w.heap.size, 1, none⟩ = some (.int .u64 0) := by rw [cell_of_row _ _ _ _ _ _ r1]; rfl
    have b0 : W.cell? ⟨w.heap.size + 1, 0, none⟩ = some (.int .u64 0) := by rw [cell_of_row _ _ _ _ _ _ r2]; rfl
    have b1 : W.cell? ⟨w.heap.size + 1, 1, none⟩ = some (.int .i64 0) := by rw [cell_of_row _ _ _ _ _ _ r2]; rfl
    have b2 : W.cell? ⟨w.heap.size + 1, 2, none⟩ = some (.int .u64 0) := by rw [cell_of_row _ _ _ _ _ _ r2]; rfl
    have b3 : W.cell? ⟨w.heap.size + 1, 3, none⟩ = some (.int .i64 0) := by rw [cell_of_row _ _ _ _ _ _ r2]; rfl
    have bf : ∀ j, W.frozen? ⟨w.heap.size + 1, j, none⟩ = false := fun j => frozen_of_row W _ j _ _ r2
    have g0 : W.cell? ⟨w.heap.size + 1 + 1, 0, none⟩ = some (.int .u64 ((u - pw : Nat) : Int)) := by rw [cell_of_row _ _ _ _ _ _ r3]; rfl
    have g1 : W.cell? ⟨w.heap.size + 1 + 1, 1, none⟩ = some (.int .i64 (b : Int)) := by rw [cell_of_row _ _ _ _ _ _ r3]; rfl
    have HR2 := Lib.hid r2
    have hsl := lt_of_block r2
    clear hW kb r1 r2 r3
    obtain ⟨sz, hsz⟩ : ∃ k, w.heap.size = k := ⟨_, rfl⟩
    rw [hsz] at a0 a1 b0 b1 b2 b3 bf g0 g1 KB HR2 hsl ⊢
    go_wp2_with fail
    generalize hW4 : ({ W with drawn := W.drawn + 1 } : World) = W4
    have d0 : W4.cell? ⟨sz + 1, 0, none⟩ = some (.int .u64 0) := by rw [← hW4]; exact b0
    have d1 : W4.cell? ⟨sz + 1, 1, none⟩ = some (.int .i64 0) := by rw [← hW4]; exact b1
    have d2 : W4.cell? ⟨sz + 1, 2, none⟩ = some (.int .u64 0) := by rw [← hW4]; exact b2
    have d3 : W4.cell? ⟨sz + 1, 3, none⟩ = some (.int .i64 0) := by rw [← hW4]; exact b3
    have d4 : W4.cell? ⟨sz + 1 + 1, 0, none⟩ = some (.int .u64 ((u - pw : Nat) : Int)) := by rw [← hW4]; exact g0
    have d5 : W4.cell? ⟨sz + 1 + 1, 1, none⟩ = some (.int .i64 (b : Int)) := by rw [← hW4]; exact g1
    have df : ∀ j, W4.frozen? ⟨sz + 1, j, none⟩ = false := by rw [← hW4]; exact bf
    have K4 : Hid (Below sz w W4) := Lib.hid (by rw [← hW4]; exact KB.out.drew)
    refine wp_region_still_tail 4 (by kernel_rfl) (by kernel_rfl) ?_
    simp only [List.take_succ_cons, List.take_zero, List.drop_succ_cons, List.drop_zero]
    rw [hW4]
    clear hW4
    repeat still_step
    refine wpStill_nil ?_
    go_wp2_with fail
    refine bodyPost_ret (v := .tuple #[.int .i64 (b : Int), .agg #[.int .u64 ((u - pw : Nat) : Int), .int .i64 (b : Int), .int .u64 0, .int .i64 0]]) (by simp [results, Tryd.results60, go_sem, *]) rfl ⟨rfl, ?_⟩
    rw [hsz]
    exact st4 K4.out _ _ _ _
  | zet k =>
    obtain ⟨hk1, hk2⟩ : 1 ≤ k ∧ k ≤ 16 := hc
    obtain ⟨p1, p2⟩ := zet_parts k v hk1
    unfold cdV pcs splV
    dsimp only
    rw [hb, hu] at p1 p2
    rw [hb, hu]
    obtain ⟨h, hh⟩ : ∃ h, b / k = h := ⟨_, rfl⟩
    rw [hh] at p1 p2 ⊢
    have hhk : h * k ≤ b := by rw [← hh]; exact Nat.div_mul_le_self b k
    obtain ⟨m, hm⟩ : ∃ m, h * k = m := ⟨_, rfl⟩
    have hm1 : (h + 1) * k = m + k := by rw [Nat.add_mul, hm, Nat.one_mul]
    rw [hm1, hm] at p1 ⊢
    rw [hm] at p2 hhk
    obtain ⟨fr, hfr⟩ : ∃ fr, 2 ^ m = fr := ⟨_, rfl⟩
    obtain ⟨tt, htt⟩ : ∃ tt, 2 ^ (m + k) = tt := ⟨_, rfl⟩
    have hfk : fr * 2 ^ k = tt := by rw [← hfr, ← htt, Nat.pow_add]
    have hmk : m + k ≤ 63 := Nat.add_le_add (Nat.le_trans hhk (Nat.le_of_lt_succ h3)) hk2
    have htt2 : tt ≤ 9223372036854775808 := htt ▸ pow63 hmk
    have hfr2 : fr ≤ tt := by rw [← hfk]; exact Nat.le_mul_of_pos_right _ (Nat.pow_pos (by decide))
    rw [hfr, htt] at p1 ⊢
    rw [hfr] at p2
    have SH := Lib.hid (fun W => short_any (u - fr) (tt - fr) p1 (Nat.le_trans (Nat.sub_le _ _) htt2) W)
    obtain ⟨P, hP⟩ : ∃ P, shP (u - fr) (tt - fr) = P := ⟨_, rfl⟩
    rw [hP] at SH ⊢
    have hm64 : m ≤ 64 := Nat.le_trans hhk (Nat.le_trans (Nat.le_of_lt h3) (by decide))
    have hkl : k ≤ 9223372036854775807 := Nat.le_trans hk2 (by decide)
    have hhl : h ≤ 9223372036854775807 := Nat.le_trans (hh ▸ Nat.div_le_self b k) (Nat.le_trans (Nat.le_of_lt h3) (by decide))
    have f0 := w64_nat k hkl
    have f0' := i64_nat k hkl
    have f1 := quo_nat b k h hh
    have f2 := int_nz k hk1
    have f3 := i64_mul h k m hm hm64
    have f4 : min m 64 = m := Nat.min_eq_left hm64
    have f5 := u64_pow m fr hfr (Nat.le_trans hfr2 htt2)
    have f6 := u64_sub u fr p2 hul
    have f7 : min k 64 = k := Nat.min_eq_left (Nat.le_trans hk2 (by decide))
    have f8 := u64_mul fr k tt hfk htt2
    have f9 := u64_sub tt fr hfr2 htt2
    have f10 := i64_nat h hhl
    have f11 : (0 : Int) ≤ (m : Int) := Int.natCast_nonneg m
    have f12 : (0 : Int) ≤ (k : Int) := Int.natCast_nonneg k
    have F5 := Lib.hid f5
    have F6 := Lib.hid f6
    have F8 := Lib.hid f8
    have F9 := Lib.hid f9
    have F3 := Lib.hid f3
    have FF := Lib.hid (And.intro f0 (And.intro f0' (And.intro f1 (And.intro f2 (And.intro f4 (And.intro f7 (And.intro f10 (And.intro f11 f12))))))))
    clear hmk hfr2 hm64 hkl hhl f0 f0' f1 f2 f3 f4 f5 f6 f7 f8 f9 f10 f11 f12
    clear hu hv hb hpw h1 h3 hv63 hb63 hul hv48 p1 p2 hh hhk hm hm1 hfr htt hfk htt2 hP
    go_enter Tryd.func60, Tryd.ntmps60
    go_wp2_with fail
    refine (LN.out _).mono ?_
    rintro e w1 ⟨rfl, rfl⟩
    go_upto_region 4 with fail
    generalize hW : World.alloc (World.alloc (World.alloc w _) _) _ = W
    obtain ⟨r1, r2, r3, kb⟩ := rows3 hW
    have KB := Lib.hid kb
    have a0 : W.cell? ⟨w.heap.size, 0, none⟩ = some (.int .u8 3) := by rw [cell_of_row _ _ _ _ _ _ r1]; rfl
    have a1 : W.cell? ⟨w.heap.size, 1, none⟩ = some (.int .u64 (k : Int)) := by rw [cell_of_row _ _ _ _ _ _ r1]; rfl
    have b0 : W.cell? ⟨w.heap.size + 1, 0, none⟩ = some (.int .u64 0) := by rw [cell_of_row _ _ _ _ _ _ r2]; rfl
    have b1 : W.cell? ⟨w.heap.size + 1, 1, none⟩ = some (.int .i64 0) := by rw [cell_of_row _ _ _ _ _ _ r2]; rfl
    have b2 : W.cell? ⟨w.heap.size + 1, 2, none⟩ = some (.int .u64 0) := by rw [cell_of_row _ _ _ _ _ _ r2]; rfl
    have b3 : W.cell? ⟨w.heap.size + 1, 3, none⟩ = some (.int .i64 0) := by rw [cell_of_row _ _ _ _ _ _ r2]; rfl
    have bf : ∀ j, W.frozen? ⟨w.heap.size + 1, j, none⟩ = false := fun j => frozen_of_row W _ j _ _ r2
    have g0 : W.cell? ⟨w.heap.size + 1 + 1, 0, none⟩ = some (.int .u64 ((u - pw : Nat) : Int)) := by rw [cell_of_row _ _ _ _ _ _ r3]; rfl
    have g1 : W.cell? ⟨w.heap.size + 1 + 1, 1, none⟩ = some (.int .i64 (b : Int)) := by rw [cell_of_row _ _ _ _ _ _ r3]; rfl
    have HR2 := Lib.hid r2
    have hsl := lt_of_block r2
    clear hW kb r1 r2 r3
    obtain ⟨sz, hsz⟩ : ∃ k, w.heap.size = k := ⟨_, rfl⟩
    rw [hsz] at a0 a1 b0 b1 b2 b3 bf g0 g1 KB HR2 hsl ⊢
    clear e1 e2 e2' e3 e4 hb64
    obtain ⟨f0, f0', f1, f2, f4, f7, f10, f11, f12⟩ := FF.out
    go_upto_region 14 with fail
    go_upto_region 15 with fail
    go_upto_region 16 with fail
    have f3 := F3.out
    have f5 := F5.out
    go_upto_region 17 with fail
    clear f3 f5
    have f6 := F6.out
    have f8 := F8.out
    have f9 := F9.out
    go_wp2_with fail
    refine (SH.out _).mono ?_
    rintro e w2 ⟨rfl, k2⟩
    have r2 := (k2.block _ hsl).trans HR2.out
    have bf2 : ∀ j, w2.frozen? ⟨sz + 1, j, none⟩ = false := fun j => frozen_of_row w2 _ j _ _ r2
    have b20 : w2.cell? ⟨sz + 1, 0, none⟩ = some (.int .u64 0) := by rw [cell_of_row _ _ _ _ _ _ r2]; rfl
    have b21 : w2.cell? ⟨sz + 1, 1, none⟩ = some (.int .i64 0) := by rw [cell_of_row _ _ _ _ _ _ r2]; rfl
    have b22 : w2.cell? ⟨sz + 1, 2, none⟩ = some (.int .u64 0) := by rw [cell_of_row _ _ _ _ _ _ r2]; rfl
    have b23 : w2.cell? ⟨sz + 1, 3, none⟩ = some (.int .i64 0) := by rw [cell_of_row _ _ _ _ _ _ r2]; rfl
    have K2 := Lib.hid (KB.out.trans (k2.mono (by rw [← hsz]; exact KB.out.size)))
    clear k2 r2
    go_wp2_with fail
    refine bodyPost_ret (v := .tuple #[.int .i64 (h : Int), .agg #[.int .u64 (P.1 : Int), .int .i64 (P.2 : Int), .int .u64 0, .int .i64 0]]) (by simp [results, Tryd.results60, go_sem, *]) rfl ⟨rfl, ?_⟩
    rw [hsz]
    exact st4 K2.out _ _ _ _
end Go.Proofs.YtflnpcgnenhogaaDoor.ls
namespace Go.Proofs.YtflnpcgnenhogaaDoor.ls
open Go.RowKit Go.Proofs.YtflnpcgnenhogaaDoor.own Go.Proofs.YtflnpcgnenhogaaDoor.bit

theorem log2_step {n k : Nat} (h : 2 ≤ n / 2 ^ k) : k + 1 ≤ Nat.log2 n := by
  have h0 : n ≠ 0 := by rintro rfl; simp at h
  rw [Nat.le_log2 h0, Nat.pow_succ]
  exact (Nat.le_div_iff_mul_le (Nat.pow_pos (by decide))).1 h |> fun h => by omega
theorem log2_stop {n k : Nat} (hn : 1 ≤ n) (hk : k ≤ Nat.log2 n) (h : ¬ 2 ≤ n / 2 ^ k) : k = Nat.log2 n := by
  have h0 : n ≠ 0 := by omega
  rcases Nat.lt_or_ge k (Nat.log2 n) with hlt | hge
  · have h1 : 2 ^ (k + 1) ≤ n := (Nat.le_log2 h0).1 hlt
    rw [Nat.pow_succ] at h1
    exact absurd ((Nat.le_div_iff_mul_le (Nat.pow_pos (by decide))).2 (by omega)) h
  · omega
set_option maxRecDepth 100000 in
theorem low_any (n : Nat) (hn : 1 ≤ n) (hn2 : n < 18446744073709551616) (w : World) : Calls Tryd.prog 86 #[.int .u64 (n : Int)] w fun e w' => e = .returned (.int .i64 ((Nat.log2 n : Nat) : Int)) ∧ w = w' := by
  have hl : Nat.log2 n < 64 := (Nat.log2_lt (by omega)).2 hn2
  obtain ⟨L, hL⟩ : ∃ L, Nat.log2 n = L := ⟨_, rfl⟩
  have HS := Lib.hid (fun k (h : 2 ≤ n / 2 ^ k) => hL ▸ log2_step h)
  have HE := Lib.hid (fun k (hk : k ≤ L) (h : ¬ 2 ≤ n / 2 ^ k) => hL ▸ log2_stop hn (hL.symm ▸ hk) h)
  have HD : Hid (∀ k, n / 2 ^ k / 2 = n / 2 ^ (k + 1) ∧ n / 2 ^ k ≤ n) := Lib.hid (fun k => ⟨by rw [Nat.div_div_eq_div_mul, ← Nat.pow_succ], Nat.div_le_self _ _⟩)
  rw [hL] at hl ⊢
  clear hL
  go_enter Tryd.func86, Tryd.ntmps86
  go_wp2_with fail
  go_loopw [0, 3] (fun v0 v3 wr => ∃ k : Nat, v0 = .int .u64 ((n / 2 ^ k : Nat) : Int) ∧ v3 = .int .i64 (k : Int) ∧ k ≤ L ∧ wr = w) (fun _ v3 _ => L - (intOf v3).toNat)
  case atStart => exact ⟨0, by simp, rfl, Nat.zero_le _, rfl⟩
  case round =>
    obtain ⟨k, rfl, rfl, hk, rfl⟩ := hrel
    obtain ⟨q, hq⟩ : ∃ q, n / 2 ^ k = q := ⟨_, rfl⟩
    have S := Lib.hid (hq ▸ HS.out k)
    have E := Lib.hid (hq ▸ HE.out k hk)
    have D := Lib.hid (hq ▸ HD.out k)
    rw [hq]
    have hq9 : q ≤ n := D.out.2
    clear hq
    by_cases h2 : 2 ≤ q
    · have i1 : decide ((1 : Int) < (q : Int)) = true := decide_eq_true (by omega)
      have hS := S.out h2
      clear h2
      go_wp2_with fail
      go_roundw
      case rel => exact ⟨k + 1, by rw [← D.out.1]; first | rfl | (congr 1; omega), by go_num, hS, by first | rfl | trivial⟩
      case measure => simp [intOf]; omega
    · have i1 : decide ((1 : Int) < (q : Int)) = false := decide_eq_false (by omega)
      obtain rfl := E.out h2
      clear h2
      go_wp2_with fail
      go_ret
      exact ⟨rfl, rfl⟩
theorem bls_zeros (n : Nat) : (madeCells (Value.bool false).cells (n * 1)).toList = bls (List.replicate n false) := by
  have e : (Value.bool false).cells = #[.bool false] := rfl
  rw [e, toList_madeCells_one]
  simp [bls]
theorem un_set (v : Nat) : (bls (List.replicate (v + 1) false)).set v (.bool true) = bls (un v) := by
  unfold bls
  rw [← List.map_set]
  congr 1
  unfold un
  rw [List.replicate_succ', List.set_append_right _ _ (by simp)]
  simp
set_option maxRecDepth 100000 in
theorem unary_any (v : Nat) (hv : v ≤ 65535) (w : World) : Calls Tryd.prog 87 #[.int .u64 (v : Int)] w (RowPost (un v) w) := by
  obtain ⟨i0, hi, hz0, hz1, hz2⟩ := info_parts Tryd.infoBool
  obtain ⟨N, hN⟩ : ∃ N, v + 1 = N := ⟨_, rfl⟩
  obtain ⟨w1, hrun, hown, hg⟩ := run_make_full w w.heap.size 26 4 i0 _ 1 Tryd.underlying26 hi hz0 hz1 .u64 .u64 N (by rw [hz2]; omega) (by simp only [maxLen]; omega) (Nat.le_refl _)
  rw [bls_zeros] at hown
  have hb1 : Below w.heap.size w w1 := ⟨hg.os, hg.tape, hg.output, hg.size, fun k hk => hg.block k hk (by simp)⟩
  have hrun1 : (Instr.makeSlice 26 (.int .u64 (N : Int)) (.int .u64 (N : Int))).run Tryd.prog w = .ok (.slice (some ⟨w.heap.size, 0, none⟩) N N) w1 := hrun
  have hst := hown.stored v (.bool true)
  have US := Lib.hid (un_set v)
  rw [hN] at US
  have HO := Lib.hid hown
  have HB := Lib.hid hb1
  have hNI : (v : Int) + 1 = (N : Int) := by omega
  have fz : ∀ i, w1.frozen? ⟨w.heap.size, i, none⟩ = false := fun i => hown.frozenAt i
  have cc : ∃ b, w1.cell? ⟨w.heap.size, v, none⟩ = some (.bool b) := by
    rw [hown.cellAt v (by omega)]
    exact ⟨false, by simp [bls, ← hN]⟩
  obtain ⟨b, cc⟩ := cc
  have HST := Lib.hid hst
  have hvN : v < N := by omega
  have HUL : Hid ((un v).length = N) := Lib.hid (by rw [un_length, hN])
  clear hown hb1 hg hst hrun hN
  go_enter Tryd.func87, Tryd.ntmps87
  go_wp2_with fail
  go_ret
  refine ⟨_, rfl, ?_, ?_⟩
  · rw [HUL.out, ← US.out]
    exact HST.out.1
  · exact HB.out.setCell (Nat.le_refl _) _
theorem clog_below {s k : Nat} (hk : 1 ≤ k) (h : s < clog k) : 2 ^ s < k := by
  have h2 : 2 ≤ k := by
    rcases Nat.lt_or_ge k 2 with h1 | h1
    · rw [clog_one (by omega)] at h; omega
    · exact h1
  have h3 := (clog_lt h2).2
  have h4 : 2 ^ s ≤ 2 ^ (clog k - 1) := Nat.pow_le_pow_right (by decide) (by omega)
  omega
set_option maxRecDepth 100000 in
theorem minimal_any (v k : Nat) (hk : 1 ≤ k) (hc : clog k ≤ 62) (hv : v < k) (w : World) : Calls Tryd.prog 89 #[.int .u64 (v : Int), .int .u64 (k : Int)] w (RowPost (mini v k) w) := by
  obtain ⟨S, hS⟩ : ∃ S, clog k = S := ⟨_, rfl⟩
  have HS : Hid (∀ s, s < S → 2 ^ s < k) := Lib.hid (fun s h => clog_below hk (by rw [hS]; exact h))
  have hP := @clog_le k
  have hM : mini v k = if v < 2 ^ S - k then ofN (S - 1) v else ofN S (v + (2 ^ S - k)) := by unfold mini; rw [hS]
  rw [hS] at hP hc
  have hP2 : 2 ^ S ≤ 4611686018427387904 := by
    have : (2 : Nat) ^ S ≤ 2 ^ 62 := Nat.pow_le_pow_right (by decide) hc
    exact this
  have HM := Lib.hid hM
  have HP := Lib.hid hP
  have HP2 := Lib.hid hP2
  clear hS hM hP hP2
  go_enter Tryd.func89, Tryd.ntmps89
  go_upto_block 0 with fail
  go_cut [5] from 7 to 16 (fun v5 wc => v5 = .int .i64 (S : Int) ∧ wc = w)
  case first =>
    go_wp2_with fail
    go_loopw [5] (fun v5 wr => ∃ s : Nat, v5 = .int .i64 (s : Int) ∧ s ≤ S ∧ wr = w) (fun v5 _ => S - (intOf v5).toNat)
    case atStart => exact ⟨0, rfl, Nat.zero_le _, rfl⟩
    case round =>
      obtain ⟨s, rfl, hs, rfl⟩ := hrel
      have i1 : decide ((s : Int) < (63 : Int)) = true := decide_eq_true (by omega)
      obtain ⟨q, hq⟩ : ∃ q, 2 ^ s = q := ⟨_, rfl⟩
      have hq9 : q ≤ 4611686018427387904 := by
        rw [← hq]
        exact Nat.le_trans (Nat.pow_le_pow_right (by decide) hs) HP2.out
      have e3 := u64_pow s q hq (by omega)
      have Q1 : Hid (s < S → q < k) := Lib.hid (fun h => hq ▸ HS.out s h)
      have Q2 : Hid (s = S → k ≤ q) := Lib.hid (fun h => by rw [← hq, h]; exact HP.out)
      clear hq
      by_cases hlt : s < S
      · have h3 := Q1.out hlt
        have i2 : decide ((q : Int) < (k : Int)) = true := decide_eq_true (by omega)
        have i2n : decide (q < k) = true := decide_eq_true h3
        clear h3
        go_wp2_with fail
        go_roundw
        case rel => exact ⟨s + 1, by go_num, by omega, by first | rfl | trivial⟩
        case measure => simp [intOf]; omega
      · have hss : s = S := by omega
        have h3 := Q2.out hss
        have i2 : decide ((q : Int) < (k : Int)) = false := decide_eq_false (by omega)
        have i2n : decide (q < k) = false := decide_eq_false (by omega)
        subst hss
        clear h3
        go_wp2_with fail
        go_meet
        case rel => exact ⟨rfl, rfl⟩
  case rest =>
    obtain ⟨rfl, rfl⟩ := hcut
    obtain ⟨q, hq⟩ : ∃ q, 2 ^ S = q := ⟨_, rfl⟩
    rw [hq] at HM HP HP2
    have hq9 := HP2.out
    have hkq := HP.out
    have e3 := u64_pow S q hq (by omega)
    have e4 := u64_sub q k hkq (by omega)
    obtain ⟨m, hm⟩ : ∃ m, q - k = m := ⟨_, rfl⟩
    rw [hm] at HM e4
    have hm9 : m ≤ q := by omega
    rename World => w1
    by_cases hvm : v < m
    · have i1 : decide ((v : Int) < (m : Int)) = true := decide_eq_true (by omega)
      have i1n : decide (v < m) = true := decide_eq_true hvm
      have hS1 : 1 ≤ S := by
        rcases Nat.eq_zero_or_pos S with h | h
        · rw [h] at hq; simp at hq; omega
        · exact h
      have hSI : (S : Int) - 1 = ((S - 1 : Nat) : Int) := by omega
      obtain ⟨S1, hS1e⟩ : ∃ z, S - 1 = z := ⟨_, rfl⟩
      rw [hS1e] at hSI HM
      have OF := Lib.hid (Of_any S1 v (by omega) (by omega) w1)
      have HM2 : Hid (mini v k = ofN S1 v) := Lib.hid (by rw [HM.out, if_pos hvm])
      clear hq hm hvm hS1
      go_wp2_with fail
      with_reducible refine OF.out.mono ?_
      rintro e w2 ⟨u, rfl, hown, hb⟩
      have HO := Lib.hid (And.intro hown hb)
      clear hown hb
      go_wp2_with fail
      go_ret
      rw [HM2.out]
      exact ⟨_, rfl, HO.out⟩
    · have i1 : decide ((v : Int) < (m : Int)) = false := decide_eq_false (by omega)
      have i1n : decide (v < m) = false := decide_eq_false hvm
      obtain ⟨t, ht⟩ : ∃ t, v + m = t := ⟨_, rfl⟩
      have htI : (v : Int) + (m : Int) = (t : Int) := by omega
      have OF := Lib.hid (Of_any S t (by omega) (by omega) w1)
      have HM2 : Hid (mini v k = ofN S t) := Lib.hid (by rw [HM.out, if_neg hvm, ht])
      clear hq hm hvm ht
      go_wp2_with fail
      with_reducible refine OF.out.mono ?_
      rintro e w2 ⟨u, rfl, hown, hb⟩
      have HO := Lib.hid (And.intro hown hb)
      clear hown hb
      go_wp2_with fail
      go_ret
      rw [HM2.out]
      exact ⟨_, rfl, HO.out⟩
end Go.Proofs.YtflnpcgnenhogaaDoor.ls
namespace Go.Proofs.YtflnpcgnenhogaaDoor.ls
open Go.RowKit Go.Proofs.YtflnpcgnenhogaaDoor.own Go.Proofs.YtflnpcgnenhogaaDoor.bit

theorem cdV_shape (c : Cd) : ∃ kd kk, cdV c = .agg #[.int .u8 kd, .int .u64 kk] := by cases c <;> exact ⟨_, _, rfl⟩
theorem pcs_len (c : Cd) (v : Nat) : (pcs c v).1 + 1 + (pcs c v).2.2 = (cb c v).length := by rw [cb_pcs, List.length_append, un_length, ofN_length]
theorem pcs_lt (c : Cd) (hc : c.ok) (v : Nat) (hv : v ≤ c.most) : (pcs c v).2.1 < 2 ^ (pcs c v).2.2 ∧ (pcs c v).2.2 ≤ 63 ∧ (pcs c v).1 ≤ 65535 := by
  cases c with
  | una => exact ⟨by show 0 < 1; decide, by show 0 ≤ 63; decide, hv⟩
  | gam =>
    have hv' : v ≤ 281474976710654 := hv
    have h1 := Nat.log2_self_le (n := v + 1) (by omega)
    have h2 := @Nat.lt_log2_self (v + 1)
    have h3 : Nat.log2 (v + 1) < 48 := log_lt (by rw [show (2 : Nat) ^ 48 = 281474976710656 from rfl]; omega)
    show v + 1 - 2 ^ Nat.log2 (v + 1) < 2 ^ Nat.log2 (v + 1) ∧ Nat.log2 (v + 1) ≤ 63 ∧ Nat.log2 (v + 1) ≤ 65535
    rw [Nat.pow_succ] at h2
    omega
  | zet k =>
    have hv' : v ≤ 281474976710654 := hv
    obtain ⟨hk1, hk2⟩ : 1 ≤ k ∧ k ≤ 16 := hc
    obtain ⟨p1, p2⟩ := zet_parts k v hk1
    have h3 : Nat.log2 (v + 1) < 48 := log_lt (by rw [show (2 : Nat) ^ 48 = 281474976710656 from rfl]; omega)
    obtain ⟨b, hb⟩ : ∃ b, Nat.log2 (v + 1) = b := ⟨_, rfl⟩
    have hle := Nat.div_le_self b k
    have hmul := Nat.div_mul_le_self b k
    show (shP _ _).1 < 2 ^ (shP _ _).2 ∧ (shP _ _).2 ≤ 63 ∧ Nat.log2 (v + 1) / k ≤ 65535
    rw [hb] at p1 p2 h3 ⊢
    have hto : 2 ^ ((b / k + 1) * k) ≤ 9223372036854775808 := pow63 (by rw [Nat.add_mul, Nat.one_mul]; omega)
    obtain ⟨K, hK⟩ : ∃ K, 2 ^ ((b / k + 1) * k) - 2 ^ (b / k * k) = K := ⟨_, rfl⟩
    obtain ⟨V, hV⟩ : ∃ V, v + 1 - 2 ^ (b / k * k) = V := ⟨_, rfl⟩
    rw [hK, hV] at p1 ⊢
    have hK2 : K ≤ 2 ^ 63 := by rw [show (2 : Nat) ^ 63 = 9223372036854775808 from rfl, ← hK]; exact Nat.le_trans (Nat.sub_le _ _) hto
    have hcl := clog_pow hK2
    have h5 := @clog_le K
    unfold shP
    split
    · rename_i hm
      refine ⟨?_, by show clog K - 1 ≤ 63; omega, by omega⟩
      show V < 2 ^ (clog K - 1)
      by_cases h2 : 2 ≤ K
      · have := clog_lt h2; have := pow_clog h2; omega
      · rw [clog_one (by omega)] at hm; omega
    · refine ⟨?_, hcl, by omega⟩
      show V + (2 ^ clog K - K) < 2 ^ clog K
      omega

set_option maxRecDepth 100000 in
set_option maxHeartbeats 1600000 in
theorem clen_any (c : Cd) (hc : c.ok) (v : Nat) (hv : v ≤ c.most) (w : World) : Calls Tryd.prog 35 #[cdV c, .int .u64 (v : Int)] w fun e w' => e = .returned (.tuple #[.int .i64 ((cb c v).length : Int), .int .i64 0]) ∧ Below w.heap.size w w' := by
  have MY := Lib.hid (fun W => may_any c hc v W)
  rw [decide_eq_true hv] at MY
  have SP := Lib.hid (fun W => split_any c hc v hv W)
  obtain ⟨q1, q2, q3⟩ := pcs_lt c hc v hv
  have QL := Lib.hid (pcs_len c v)
  obtain ⟨kd, kk, hcd⟩ := cdV_shape c
  rw [hcd] at MY SP ⊢
  unfold splV at SP
  obtain ⟨z, pv, pn, hq⟩ : ∃ z pv pn, pcs c v = (z, (pv, pn)) := ⟨_, _, _, rfl⟩
  rw [hq] at SP QL q2 q3
  dsimp only at SP QL q2 q3
  have i1 : IntKind.i64.wrap ((z : Int) + 1) = ((z + 1 : Nat) : Int) := by rw [IntWalk.i64_in _ (by omega)]; omega
  have i2 : IntKind.i64.wrap (((z + 1 : Nat) : Int) + (pn : Int)) = ((z + 1 + pn : Nat) : Int) := by rw [IntWalk.i64_in _ (by omega)]; omega
  have i3 : IntKind.i64.wrap (((z + 1 + pn : Nat) : Int) + 0) = ((z + 1 + pn : Nat) : Int) := by rw [IntWalk.i64_in _ (by omega)]; omega
  have I := Lib.hid (And.intro i1 (And.intro i2 i3))
  have QB : Hid (z + 1 + pn ≤ 70000) := Lib.hid (by omega)
  rw [← QL.out]
  clear hq hcd q1 q2 q3 i1 i2 i3 hv
  go_enter Tryd.func35, Tryd.ntmps35
  go_wp2_with fail
  refine (MY.out _).mono ?_
  rintro e w1 ⟨rfl, k1⟩
  have r1 := box_keeps k1
  have c0 : w1.cell? ⟨w.heap.size, 0, none⟩ = some (.int .u8 kd) := by rw [cell_of_row _ _ _ _ _ _ r1]; rfl
  have c1 : w1.cell? ⟨w.heap.size, 1, none⟩ = some (.int .u64 kk) := by rw [cell_of_row _ _ _ _ _ _ r1]; rfl
  have K : Hid (Below w.heap.size w w1) := Lib.hid (below_alloc k1)
  clear k1 r1
  go_wp2_with fail
  refine (SP.out _).mono ?_
  rintro e w2 ⟨rfl, k2⟩
  have K2 : Hid (Below w.heap.size w w2) := Lib.hid (K.out.trans (k2.mono K.out.size))
  clear k2
  have hz := QB.out
  go_wp2_with fail
  go_ret2
  refine ⟨?_, K2.out.alloc K2.out.size _⟩
  simp

theorem ofN_zero (n : Nat) : ofN n 0 = List.replicate n false := by
  induction n with
  | zero => rfl
  | succ n ih => rw [ofN, ih, List.replicate_succ]; simp
theorem ofN_un (z : Nat) : ofN (z + 1) 1 = un z := by
  rw [ofN_split z 1 1, show (1 : Nat) / 2 ^ 1 = 0 from rfl, ofN_zero]; rfl
theorem un_more (z : Nat) (h : 63 ≤ z) : un z = ofN 63 0 ++ un (z - 63) := by
  rw [ofN_zero, un, un, ← List.append_assoc, List.replicate_append_replicate, Nat.add_sub_cancel' h]

/-- a writer and rows beside it: what was written since w -/
def WP (x : Nat → Nat) (d t : Nat) (w : World) (wb : Nat) (l : Bits) (ks : List (Nat × Obj)) (W : World) : Prop :=
  ∃ x', Fr x x' (fun e => e = d ∨ e = t) w W ∧ WrC x' d W wb l ∧ ∀ p ∈ ks, x' p.1 = t ∧ W.heap[p.1]? = some p.2
theorem piece0 (a b c d : Value) (W : World) : (Instr.index 131 (.agg #[a, b, c, d]) (.int .i64 0)).run Tryd.prog W = .ok (.agg #[a, b]) W := by kernel_rfl
theorem piece1 (a b c d : Value) (W : World) : (Instr.index 131 (.agg #[a, b, c, d]) (.int .i64 1)).run Tryd.prog W = .ok (.agg #[c, d]) W := by kernel_rfl
theorem WP.start {x : Nat → Nat} {d t : Nat} {w : World} {wb : Nat} {l : Bits} (h : WrC x d w wb l) : WP x d t w wb l [] w := ⟨x, Fr.refl _ _ _, h, fun p hp => by cases hp⟩
theorem WP.row {x : Nat → Nat} {d t : Nat} {w W : World} {wb : Nat} {l : Bits} {ks : List (Nat × Obj)} (h : WP x d t w wb l ks W) {b : Nat} {o : Obj} (hm : (b, o) ∈ ks) : W.heap[b]? = some o := by
  obtain ⟨x', _, _, hk⟩ := h
  exact (hk _ hm).2
theorem WP.next {x : Nat → Nat} {d t : Nat} {w W W' : World} {wb : Nat} {l : Bits} {ks : List (Nat × Obj)} (h : WP x d t w wb l ks W) (hdt : d ≠ t) (k : Below W.heap.size W W') : WP x d t w wb l ks W' := by
  obtain ⟨x', hf, hw, hk⟩ := h
  have f2 : Fr x' (paint x' W.heap.size t) (fun e => e = t) W W' := Fr.of_below k rfl
  refine ⟨_, hf.trans (f2.mono (fun c hc => .inr hc)), hw.frame f2 hdt, fun p hp => ?_⟩
  obtain ⟨h1, h2⟩ := hk p hp
  exact ⟨(paint_old (lt_of_block h2)).trans h1, (k.block _ (lt_of_block h2)).trans h2⟩
theorem WP.keep {x : Nat → Nat} {d t : Nat} {w W : World} {wb : Nat} {l : Bits} {ks : List (Nat × Obj)} (h : WP x d t w wb l ks W) (hdt : d ≠ t) (row : Array Value) (T : TypeId) : WP x d t w wb l ((W.heap.size, .cells row T (0, 0)) :: ks) (W.alloc (.cells row T)) := by
  obtain ⟨x', hf, hw, hk⟩ := h
  have k : Below W.heap.size W (W.alloc (.cells row T)) := (Below.refl _ _).alloc (Nat.le_refl _) _
  have f2 : Fr x' (paint x' W.heap.size t) (fun e => e = t) W (W.alloc (.cells row T)) := Fr.of_below k rfl
  refine ⟨_, hf.trans (f2.mono (fun c hc => .inr hc)), hw.frame f2 hdt, fun p hp => ?_⟩
  rcases List.mem_cons.1 hp with rfl | hp
  · exact ⟨paint_new (Nat.le_refl _), heap_alloc_new W _⟩
  · obtain ⟨h1, h2⟩ := hk p hp
    exact ⟨(paint_old (lt_of_block h2)).trans h1, (k.block _ (lt_of_block h2)).trans h2⟩
/-- rows that came in the last call -/
theorem WP.kept {x : Nat → Nat} {d t : Nat} {w W W' : World} {wb : Nat} {l : Bits} {ks : List (Nat × Obj)} (h : WP x d t w wb l ks W) (hdt : d ≠ t) (k : Below W.heap.size W W') {b : Nat} {o : Obj} (hb : W.heap.size ≤ b) (ho : W'.heap[b]? = some o) : WP x d t w wb l ((b, o) :: ks) W' := by
  obtain ⟨x', hf, hw, hk⟩ := h
  have f2 : Fr x' (paint x' W.heap.size t) (fun e => e = t) W W' := Fr.of_below k rfl
  refine ⟨_, hf.trans (f2.mono (fun c hc => .inr hc)), hw.frame f2 hdt, fun p hp => ?_⟩
  rcases List.mem_cons.1 hp with rfl | hp
  · exact ⟨paint_new hb, ho⟩
  · obtain ⟨h1, h2⟩ := hk p hp
    exact ⟨(paint_old (lt_of_block h2)).trans h1, (k.block _ (lt_of_block h2)).trans h2⟩
theorem WP.less {x : Nat → Nat} {d t : Nat} {w W : World} {wb : Nat} {l : Bits} {p : Nat × Obj} {ks : List (Nat × Obj)} (h : WP x d t w wb l (p :: ks) W) : WP x d t w wb l ks W := by
  obtain ⟨x', hf, hw, hk⟩ := h
  exact ⟨x', hf, hw, fun q hq => hk q (List.mem_cons_of_mem _ hq)⟩
theorem WP.put {x : Nat → Nat} {d t : Nat} {w W : World} {wb : Nat} {l : Bits} {ks : List (Nat × Obj)} (h : WP x d t w wb l ks W) (hdt : d ≠ t) (v n : Nat) (hv : v < 2 ^ n) (hn : n ≤ 64) (hl : l.length + n ≤ 134217728) :
    Calls Tryd.prog 61 #[.pointer (some ⟨wb, 0, none⟩), .int .u64 (v : Int), .int .i64 (n : Int)] W fun e w' => e = .returned (.int .i64 0) ∧ WP x d t w wb (l ++ ofN n v) ks w' := by
  obtain ⟨x', hf, hw, hk⟩ := h
  refine (Put_ok x' d W wb l v n hv hn hl hw).mono ?_
  rintro e w' ⟨rfl, x2, f2, h2⟩
  refine ⟨rfl, x2, hf.trans (f2.mono (fun c hc => .inl hc)), h2, fun p hp => ?_⟩
  obtain ⟨h1, h3⟩ := hk p hp
  exact ⟨(f2.col _ (lt_of_block h3)).trans h1, (f2.old _ (lt_of_block h3) (by show ¬ x' p.1 = d; rw [h1]; exact fun e => hdt e.symm)).trans h3⟩
theorem WP.len {x : Nat → Nat} {d t : Nat} {w W : World} {wb : Nat} {l : Bits} {ks : List (Nat × Obj)} (h : WP x d t w wb l ks W) :
    Calls Tryd.prog 19 #[.pointer (some ⟨wb, 0, none⟩)] W fun e w' => e = .returned (.int .i64 (l.length : Int)) ∧ W = w' := by
  obtain ⟨x', _, hw, _⟩ := h
  exact len_any x' d W wb l hw

set_option maxRecDepth 100000 in
set_option maxHeartbeats 3200000 in
theorem cput_any (x : Nat → Nat) (d t : Nat) (hdt : d ≠ t) (c : Cd) (hc : c.ok) (v : Nat) (hv : v ≤ c.most) (w : World) (wb : Nat) (l : Bits) (hl : l.length + (cb c v).length ≤ 134217728) (h : WrC x d w wb l) :
    Calls Tryd.prog 36 #[.pointer (some ⟨wb, 0, none⟩), cdV c, .int .u64 (v : Int)] w fun e w' => e = .returned (.int .i64 0) ∧ ∃ x', Fr x x' (fun e => e = d ∨ e = t) w w' ∧ WrC x' d w' wb (l ++ cb c v) := by
  have CL := Lib.hid (fun W => clen_any c hc v hv W)
  have SP := Lib.hid (fun W => split_any c hc v hv W)
  obtain ⟨q1, q2, q3⟩ := pcs_lt c hc v hv
  have QL := Lib.hid (pcs_len c v)
  have QB := Lib.hid (cb_pcs c v)
  obtain ⟨kd, kk, hcd⟩ := cdV_shape c
  rw [hcd] at CL SP ⊢
  unfold splV at SP
  obtain ⟨z, pv, pn, hq⟩ : ∃ z pv pn, pcs c v = (z, (pv, pn)) := ⟨_, _, _, rfl⟩
  rw [hq] at SP QL QB q1 q2 q3
  dsimp only at SP QL QB q1 q2 q3
  have HQ1 := Lib.hid q1
  rw [QB.out] at hl ⊢
  rw [← QL.out] at CL
  have hl2 : l.length + (z + 1 + pn) ≤ 134217728 := by rw [List.length_append, un_length, ofN_length] at hl; exact hl
  obtain ⟨ll, hll⟩ : ∃ k, l.length = k := ⟨_, rfl⟩
  have H0 := Lib.hid (WP.start (t := t) h)
  have HLL := Lib.hid hll
  rw [hll] at hl2
  have i3 : ¬ (134217728 : Int) - (ll : Int) < ((z + 1 + pn : Nat) : Int) := by omega
  have i3' : ¬ (134217728 : Int) - (ll : Int) < (z : Int) + 1 + (pn : Int) := by omega
  have hw : IntKind.i64.wrap ((134217728 : Int) - (ll : Int)) = 134217728 - (ll : Int) := IntWalk.i64_in _ (by omega)
  have HDT := Lib.hid hdt
  clear hq hcd hl hll h q1 hv hdt
  go_enter Tryd.func36, Tryd.ntmps36
  go_upto_region 3 with fail
  have H1 := Lib.hid (H0.out.keep HDT.out #[.int .u8 kd, .int .u64 kk] 85)
  obtain ⟨sz, hsz⟩ : ∃ k, w.heap.size = k := ⟨_, rfl⟩
  rw [hsz] at H1 ⊢
  generalize World.alloc w _ = W1 at H1 ⊢
  have c0 : W1.cell? ⟨sz, 0, none⟩ = some (.int .u8 kd) := by rw [cell_of_row _ _ _ _ _ _ (H1.out.row (List.mem_cons_self ..))]; rfl
  have c1 : W1.cell? ⟨sz, 1, none⟩ = some (.int .u64 kk) := by rw [cell_of_row _ _ _ _ _ _ (H1.out.row (List.mem_cons_self ..))]; rfl
  clear H0
  go_wp2_with fail
  refine (CL.out _).mono ?_
  rintro e w1 ⟨rfl, k1⟩
  have H2 := Lib.hid (H1.out.next HDT.out k1)
  clear c0 c1 k1 H1
  have c0 : w1.cell? ⟨sz, 0, none⟩ = some (.int .u8 kd) := by rw [cell_of_row _ _ _ _ _ _ (H2.out.row (List.mem_cons_self ..))]; rfl
  have c1 : w1.cell? ⟨sz, 1, none⟩ = some (.int .u64 kk) := by rw [cell_of_row _ _ _ _ _ _ (H2.out.row (List.mem_cons_self ..))]; rfl
  go_wp2_with fail
  refine (WP.len H2.out).mono ?_
  rintro e w2 ⟨rfl, rfl⟩
  rw [HLL.out]
  go_wp2_with fail
  refine (SP.out _).mono ?_
  rintro e w2 ⟨rfl, k2⟩
  have H3 := Lib.hid (H2.out.next HDT.out k2)
  clear c0 c1 k2 H2 CL SP
  have z63 : z < 1000000 := by omega
  clear i3 i3' hw
  go_upto_region 9 with fail
  have H4 := Lib.hid (H3.out.keep HDT.out #[.int .u64 (pv : Int), .int .i64 (pn : Int), .int .u64 0, .int .i64 0] 131)
  obtain ⟨ab, hab⟩ : ∃ k, w2.heap.size = k := ⟨_, rfl⟩
  rw [hab] at H4 ⊢
  generalize World.alloc w2 _ = W4 at H4 ⊢
  obtain ⟨ks, hks⟩ : ∃ ks, ks = [(ab, Obj.cells #[.int .u64 (pv : Int), .int .i64 (pn : Int), .int .u64 0, .int .i64 0] 131 (0, 0)), (sz, Obj.cells #[.int .u8 kd, .int .u64 kk] 85 (0, 0))] := ⟨_, rfl⟩
  have HKS : Hid ((ab, Obj.cells #[.int .u64 (pv : Int), .int .i64 (pn : Int), .int .u64 0, .int .i64 0] 131 (0, 0)) ∈ ks) := Lib.hid (by rw [hks]; exact List.mem_cons_self ..)
  rw [← hks] at H4
  clear H3 hab hks hsz
  go_wp2_with fail
  go_loopw [9] (fun vz wr => ∃ z' : Nat, vz = .int .i64 (z' : Int) ∧ z' ≤ z ∧ ∃ l', l'.length + z' = ll + z ∧ l' ++ un z' = l ++ un z ∧ WP x d t w wb l' ks wr) (fun vz _ => (intOf vz).toNat)
  case atStart => exact ⟨z, rfl, Nat.le_refl _, l, by rw [HLL.out], rfl, H4.out⟩
  case round =>
    obtain ⟨z', rfl, hz, l', hl1, hl3, hW⟩ := hrel
    by_cases h63 : 63 < z'
    · have PU := Lib.hid (hW.put HDT.out 0 63 (by decide) (by decide) (by omega))
      have LE : Hid ((l' ++ ofN 63 0) ++ un (z' - 63) = l ++ un z) := Lib.hid (by rw [List.append_assoc, ← un_more z' (by omega), hl3])
      have LN : Hid ((l' ++ ofN 63 0).length + (z' - 63) = ll + z) := Lib.hid (by rw [List.length_append, ofN_length]; omega)
      have w1 : IntKind.i64.wrap ((z' : Int) - 63) = ((z' - 63 : Nat) : Int) := by rw [IntWalk.i64_in _ (by omega)]; omega
      clear hW hl3 hl1
      go_wp2_with fail
      refine PU.out.mono ?_
      rintro e w5 ⟨rfl, h5⟩
      go_wp2_with fail
      go_roundw
      case rel => exact ⟨z' - 63, by go_num, by omega, _, LN.out, LE.out, h5⟩
      case measure => simp [intOf]; omega
    · have PU := Lib.hid (hW.put HDT.out 1 (z' + 1) (Nat.one_lt_two_pow (by omega)) (by omega) (by omega))
      rw [ofN_un, hl3] at PU
      have w1 : IntKind.i64.wrap ((z' : Int) + 1) = ((z' + 1 : Nat) : Int) := by rw [IntWalk.i64_in _ (by omega)]; omega
      have hz0 : (0 : Int) ≤ (z' : Int) := by omega
      clear hW hl3 hl1
      go_wp2_with fail
      refine PU.out.mono ?_
      rintro e w5 ⟨rfl, h5⟩
      have H5 := Lib.hid h5
      have a0 : w5.cell? ⟨ab, 0, none⟩ = some (.int .u64 (pv : Int)) := by rw [cell_of_row _ _ _ _ _ _ (h5.row HKS.out)]; rfl
      have a1 : w5.cell? ⟨ab, 1, none⟩ = some (.int .i64 (pn : Int)) := by rw [cell_of_row _ _ _ _ _ _ (h5.row HKS.out)]; rfl
      have a2 : w5.cell? ⟨ab, 2, none⟩ = some (.int .u64 0) := by rw [cell_of_row _ _ _ _ _ _ (h5.row HKS.out)]; rfl
      have a3 : w5.cell? ⟨ab, 3, none⟩ = some (.int .i64 0) := by rw [cell_of_row _ _ _ _ _ _ (h5.row HKS.out)]; rfl
      clear h5 PU
      go_wp2_with fail
      clear a0 a1 a2 a3
      have hlu : (l ++ un z).length + pn + 0 ≤ 134217728 := by rw [List.length_append, un_length, HLL.out]; omega
      have hlu2 : (l ++ (un z ++ ofN pn pv)).length + 0 ≤ 134217728 := by rw [List.length_append, List.length_append, un_length, ofN_length, HLL.out]; omega
      go_loopw [50] (fun vi wr => ∃ l2, WP x d t w wb l2 ks wr ∧ ((vi = .int .i64 0 ∧ l2 = l ++ un z) ∨ (vi = .int .i64 1 ∧ l2 = l ++ (un z ++ ofN pn pv)) ∨ (vi = .int .i64 2 ∧ l2 = l ++ (un z ++ ofN pn pv)))) (fun vi _ => 2 - (intOf vi).toNat)
      case atStart => exact ⟨_, H5.out, .inl ⟨rfl, rfl⟩⟩
      case round =>
        rename_i wr2
        obtain ⟨l2, hW, ⟨rfl, rfl⟩ | ⟨rfl, rfl⟩ | ⟨rfl, rfl⟩⟩ := hrel
        · have K6 := Lib.hid (hW.keep HDT.out #[.int .u64 (pv : Int), .int .i64 (pn : Int)] 130)
          have PU := Lib.hid (K6.out.put HDT.out pv pn HQ1.out (by omega) (by omega))
          rw [List.append_assoc] at PU
          clear hW
          have ix := piece0 (.int .u64 (pv : Int)) (.int .i64 (pn : Int)) (.int .u64 0) (.int .i64 0)
          go_wp2_with fail
          refine PU.out.mono ?_
          rintro e w7 ⟨rfl, h7⟩
          have H7 := Lib.hid (show WP x d t w wb (l ++ (un z ++ ofN pn pv)) ks w7 from h7.less)
          clear h7
          go_wp2_with fail
          go_roundw
          case rel => exact ⟨_, H7.out, .inr (.inl ⟨by go_num, rfl⟩)⟩
          case measure => simp [intOf]
        · have K6 := Lib.hid (hW.keep HDT.out #[.int .u64 0, .int .i64 0] 130)
          have PU := Lib.hid (K6.out.put HDT.out 0 0 (by decide) (by decide) (by omega))
          rw [show (l ++ (un z ++ ofN pn pv)) ++ ofN 0 0 = l ++ (un z ++ ofN pn pv) from List.append_nil _] at PU
          clear hW
          have ix := piece1 (.int .u64 (pv : Int)) (.int .i64 (pn : Int)) (.int .u64 0) (.int .i64 0)
          go_wp2_with fail
          refine PU.out.mono ?_
          rintro e w7 ⟨rfl, h7⟩
          have H7 := Lib.hid (show WP x d t w wb (l ++ (un z ++ ofN pn pv)) ks w7 from h7.less)
          clear h7
          go_wp2_with fail
          go_roundw
          case rel => exact ⟨_, H7.out, .inr (.inr ⟨by go_num, rfl⟩)⟩
          case measure => simp [intOf]
        · have HW := Lib.hid hW
          clear hW
          go_wp2_with fail
          go_ret
          obtain ⟨x', f', w', _⟩ := HW.out
          exact ⟨rfl, x', f', w'⟩
end Go.Proofs.YtflnpcgnenhogaaDoor.ls
namespace Go.Proofs.YtflnpcgnenhogaaDoor.ls
open Go.Proofs.YtflnpcgnenhogaaDoor.bit

/-- numbers that rise, below 65536 -/
def Ris (l : List Nat) : Prop := l.Pairwise (· < ·) ∧ ∀ v ∈ l, v < 65536
structure Pr where
  win : Nat
  itv : Nat
  zet : Nat
def Pr.ok (p : Pr) : Prop := p.win ≤ 16 ∧ (p.itv = 0 ∨ 2 ≤ p.itv ∧ p.itv ≤ 64) ∧ 1 ≤ p.zet ∧ p.zet ≤ 16
def zig (z : Int) : Nat := if 0 ≤ z then (2 * z).toNat else (2 * (-(z + 1)) + 1).toNat
def zag (u : Nat) : Int := if u % 2 = 0 then ((u / 2 : Nat) : Int) else -((u / 2 : Nat) : Int) - 1
/-- runs so far (all but the last, the last): one number more, copied or not -/
def rst (q : List Nat × Nat) (own : Bool) : List Nat × Nat := if own != ((q.1.length + 1) % 2 == 1) then (q.1 ++ [q.2], 1) else (q.1, q.2 + 1)
def isIn (l : List Nat) (v : Nat) : Bool := decide (v ∈ l)
def runs (succ ref : List Nat) : List Nat × Nat := ref.foldl (fun q v => rst q (isIn succ v)) ([], 0)
def leftOf (succ ref : List Nat) : List Nat := succ.filter fun v => !(isIn ref v)
/-- how many of a list continue a -/
def cons1 : Nat → List Nat → Nat
  | _, [] => 0
  | a, b :: r => if b = a + 1 then cons1 b r + 1 else 0
theorem cons1_le : ∀ (a : Nat) (r : List Nat), cons1 a r ≤ r.length
  | _, [] => Nat.le_refl _
  | a, b :: r => by
    rw [cons1]
    split
    · have := cons1_le b r; simp; omega
    · simp
/-- the long rows among numbers, and what is left -/
def rws (least : Nat) : List Nat → List (Nat × Nat) × List Nat
  | [] => ([], [])
  | a :: r =>
    if 0 < least ∧ least ≤ cons1 a r + 1 then ((a, cons1 a r + 1) :: (rws least (r.drop (cons1 a r))).1, (rws least (r.drop (cons1 a r))).2)
    else ((rws least (r.drop (cons1 a r))).1, a :: r.take (cons1 a r) ++ (rws least (r.drop (cons1 a r))).2)
termination_by l => l.length
decreasing_by all_goals simp only [List.length_drop, List.length_cons]; omega
/-- the numbers of runs -/
def rnm : Nat → List Nat → List Nat
  | _, [] => []
  | i, n :: r => (n - min i 1) :: rnm (i + 1) r
/-- the numbers of rows, behind an end -/
def lnm (x itv : Nat) : Option Nat → List (Nat × Nat) → List Nat
  | _, [] => []
  | none, (f, n) :: r => zig ((f : Int) - x) :: (n - itv) :: lnm x itv (some (f + n - 1)) r
  | some e, (f, n) :: r => (f - e - 2) :: (n - itv) :: lnm x itv (some (f + n - 1)) r
/-- the numbers of what is left -/
def znm (x : Nat) : Option Nat → List Nat → List Nat
  | _, [] => []
  | none, v :: r => zig ((v : Int) - x) :: znm x (some v) r
  | some u, v :: r => (v - u - 1) :: znm x (some v) r
/-- all numbers of a list ahead, and behind its head -/
def hdN (succ : List Nat) (r : Nat) (p : Pr) : List (Cd × Nat) :=
  (.gam, succ.length) :: (if succ = [] then [] else if 0 < p.win then [(.una, r)] else [])
def runN (succ ref : List Nat) (r : Nat) : List (Cd × Nat) :=
  if 0 < r then (.gam, (runs succ ref).1.length) :: (rnm 0 (runs succ ref).1).map (fun v => (Cd.gam, v)) else []
def restN (x : Nat) (left : List Nat) (p : Pr) : List (Cd × Nat) :=
  if left = [] then [] else
    (if 0 < p.itv then [(Cd.gam, (rws p.itv left).1.length)] else []) ++ (lnm x p.itv none (rws p.itv left).1).map (fun v => (Cd.gam, v)) ++ (znm x none (rws p.itv left).2).map (fun v => (Cd.zet p.zet, v))
def tlN (x : Nat) (succ ref : List Nat) (r : Nat) (p : Pr) : List (Cd × Nat) :=
  if succ = [] then [] else runN succ ref r ++ restN x (leftOf succ ref) p
def nums (x : Nat) (succ ref : List Nat) (r : Nat) (p : Pr) : List (Cd × Nat) := hdN succ r p ++ tlN x succ ref r p
def bitsOf (l : List (Cd × Nat)) : Bits := l.flatMap fun q => cb q.1 q.2
theorem bitsOf_append (a b : List (Cd × Nat)) : bitsOf (a ++ b) = bitsOf a ++ bitsOf b := List.flatMap_append ..
theorem bitsOf_nil : bitsOf [] = [] := rfl
theorem bitsOf_cons (c : Cd) (v : Nat) (b : List (Cd × Nat)) : bitsOf ((c, v) :: b) = cb c v ++ bitsOf b := rfl
def lay (x : Nat) (succ ref : List Nat) (r : Nat) (p : Pr) : Bits := bitsOf (nums x succ ref r p)

/-! ### what runs are -/
def sum (l : List Nat) : Nat := l.foldr (· + ·) 0
theorem sum_append (a b : List Nat) : sum (a ++ b) = sum a + sum b := by
  induction a with
  | nil => simp [sum]
  | cons x a ih =>
    show x + sum (a ++ b) = x + sum a + sum b
    rw [ih]; omega
/-- what runs copy of a list -/
def exp : Nat → List Nat → List Nat → List Nat
  | _, [], _ => []
  | i, n :: R, ref => (if i % 2 = 0 then ref.take n else []) ++ exp (i + 1) R (ref.drop n)
theorem exp_snoc : ∀ (i : Nat) (I : List Nat) (n : Nat) (ref : List Nat), exp i (I ++ [n]) ref = exp i I ref ++ (if (i + I.length) % 2 = 0 then (ref.drop (sum I)).take n else [])
  | i, [], n, ref => by simp [exp, sum]
  | i, m :: I, n, ref => by
    show (if i % 2 = 0 then ref.take m else []) ++ exp (i + 1) (I ++ [n]) (ref.drop m) = _
    rw [exp_snoc (i + 1) I n (ref.drop m), List.drop_drop, ← List.append_assoc]
    have e : i + 1 + I.length = i + (m :: I).length := by simp; omega
    rw [e]
    rfl
theorem exp_more : ∀ (i : Nat) (I ref w : List Nat), sum I ≤ ref.length → exp i I (ref ++ w) = exp i I ref
  | _, [], _, _, _ => rfl
  | i, m :: I, ref, w, h => by
    have h' : m + sum I ≤ ref.length := h
    rw [exp, exp, List.take_append_of_le_length (by omega), List.drop_append_of_le_length (by omega), exp_more (i + 1) I (ref.drop m) w (by rw [List.length_drop]; omega)]
/-- runs of a list: what they come to, and what they copy -/
structure RunsOk (f : Nat → Bool) (ref : List Nat) (q : List Nat × Nat) : Prop where
  all : sum q.1 + q.2 = ref.length
  cop : exp 0 (q.1 ++ [q.2]) ref = ref.filter f
  pos : ∀ i (h : i < q.1.length), 0 < i → 0 < q.1[i]
  last : 0 < q.1.length → 0 < q.2
theorem RunsOk.step {f : Nat → Bool} {ref : List Nat} {q : List Nat × Nat} (h : RunsOk f ref q) (v : Nat) : RunsOk f (ref ++ [v]) (rst q (f v)) := by
  obtain ⟨I, n⟩ := q
  have hall : sum I + n = ref.length := h.all
  have hpos := h.pos
  have hlast : 0 < I.length → 0 < n := h.last
  have hcop := h.cop
  simp only at hcop hpos
  rw [exp_snoc, Nat.zero_add] at hcop
  have hd : (ref.drop (sum I)).length = n := by rw [List.length_drop]; omega
  rw [List.take_of_length_le (by omega)] at hcop
  by_cases hs : (f v != ((I.length + 1) % 2 == 1)) = true
  · have e : rst (I, n) (f v) = (I ++ [n], 1) := by unfold rst; rw [if_pos hs]
    rw [e]
    refine ⟨?_, ?_, ?_, fun _ => Nat.one_pos⟩
    · show sum (I ++ [n]) + 1 = _
      rw [sum_append, List.length_append, List.length_singleton]
      show sum I + (n + 0) + 1 = _
      omega
    · show exp 0 (I ++ [n] ++ [1]) (ref ++ [v]) = _
      have s2 : sum (I ++ [n]) = ref.length := by rw [sum_append]; show sum I + (n + 0) = _; omega
      rw [exp_snoc, exp_more _ _ _ _ (by omega), exp_snoc, List.take_of_length_le (by omega), Nat.zero_add, Nat.zero_add, hcop, s2, List.filter_append, List.drop_left]
      congr 1
      rw [List.length_append, List.length_singleton]
      cases hf : f v
      · rw [hf] at hs
        have : (I.length + 1) % 2 = 1 := by simpa using hs
        rw [if_neg (by omega)]
        simp [hf]
      · rw [hf] at hs
        have : (I.length + 1) % 2 ≠ 1 := by simpa using hs
        rw [if_pos (by omega)]
        simp [hf]
    · intro i hi h0
      show 0 < (I ++ [n])[i]
      rw [List.getElem_append]
      split
      · exact hpos i (by assumption) h0
      · rename_i hge
        simp only [List.length_append, List.length_singleton] at hi
        simp only [List.getElem_singleton]
        exact hlast (by omega)
  · have e : rst (I, n) (f v) = (I, n + 1) := by unfold rst; rw [if_neg hs]
    rw [e]
    refine ⟨?_, ?_, hpos, fun _ => Nat.succ_pos _⟩
    · show sum I + (n + 1) = _
      rw [List.length_append, List.length_singleton]
      omega
    · show exp 0 (I ++ [n + 1]) (ref ++ [v]) = _
      rw [exp_snoc, exp_more _ _ _ _ (by omega), List.filter_append, ← hcop, Nat.zero_add, List.append_assoc]
      congr 1
      rw [List.drop_append_of_le_length (by omega), List.take_of_length_le (by rw [List.length_append, hd]; simp)]
      have hs' : (f v != ((I.length + 1) % 2 == 1)) = false := by simpa using hs
      cases hf : f v
      · rw [hf] at hs'
        have : ¬ (I.length + 1) % 2 = 1 := by simpa using hs'
        rw [if_neg (by omega), if_neg (by omega)]
        simp [hf]
      · rw [hf] at hs'
        have : (I.length + 1) % 2 = 1 := by simpa using hs'
        rw [if_pos (by omega), if_pos (by omega)]
        simp [hf]
theorem runs_fold (f : Nat → Bool) : ∀ (l ref : List Nat) (q : List Nat × Nat), RunsOk f ref q → RunsOk f (ref ++ l) (l.foldl (fun q v => rst q (f v)) q)
  | [], ref, q, h => by rw [List.append_nil]; exact h
  | v :: l, ref, q, h => by
    have := runs_fold f l (ref ++ [v]) _ (h.step v)
    rw [List.append_assoc] at this
    exact this
theorem runs_ok (succ ref : List Nat) : RunsOk (isIn succ) ref (runs succ ref) := by
  have := runs_fold (isIn succ) ref [] ([], 0) ⟨rfl, rfl, fun i h => by simp at h, fun h => by simp at h⟩
  exact this
theorem sum_len : ∀ (l : List Nat) (k : Nat), (∀ i (h : i < l.length), k ≤ i → 0 < l[i]) → l.length ≤ sum l + k
  | [], k, _ => by simp
  | n :: l, 0, h => by
    have h0 := h 0 (by simp) (Nat.le_refl _)
    have := sum_len l 0 (fun i hi _ => by have := h (i + 1) (by simpa using hi) (Nat.zero_le _); simpa using this)
    simp only [List.getElem_cons_zero] at h0
    show l.length + 1 ≤ n + sum l + 0
    omega
  | n :: l, k + 1, h => by
    have := sum_len l k (fun i hi hk => by have := h (i + 1) (by simpa using hi) (by omega); simpa using this)
    show l.length + 1 ≤ n + sum l + (k + 1)
    omega
theorem RunsOk.len {f : Nat → Bool} {ref : List Nat} {q : List Nat × Nat} (h : RunsOk f ref q) : q.1.length ≤ ref.length := by
  have h1 := sum_len q.1 1 (fun i hi h1 => h.pos i hi (by omega))
  have h2 := h.all
  rcases Nat.eq_zero_or_pos q.1.length with h3 | h3
  · omega
  · have := h.last h3; omega

/-! ### what rows are -/
def row (q : Nat × Nat) : List Nat := List.range' q.1 q.2
theorem cons1_spec : ∀ (a : Nat) (r : List Nat), r.take (cons1 a r) = List.range' (a + 1) (cons1 a r) ∧ ∀ (h : cons1 a r < r.length), r[cons1 a r] ≠ a + 1 + cons1 a r
  | a, [] => ⟨rfl, fun h => by simp [cons1] at h⟩
  | a, b :: r => by
    rw [cons1]
    by_cases hb : b = a + 1
    · subst hb
      simp only [if_true]
      obtain ⟨h1, h2⟩ := cons1_spec (a + 1) r
      refine ⟨by rw [List.take_succ_cons, h1]; rfl, fun h => ?_⟩
      have := h2 (by simpa using h)
      rw [List.getElem_cons_succ]
      omega
    · simp only [if_neg hb]
      refine ⟨rfl, fun _ => ?_⟩
      rw [List.getElem_cons_zero]
      omega
/-- rows that lie apart, behind an end, each so long at least -/
def Apart (least : Nat) : Option Nat → List (Nat × Nat) → Prop
  | _, [] => True
  | none, (f, n) :: r => least ≤ n ∧ 0 < n ∧ f + n ≤ 65536 ∧ Apart least (some (f + n - 1)) r
  | some e, (f, n) :: r => e + 2 ≤ f ∧ least ≤ n ∧ 0 < n ∧ f + n ≤ 65536 ∧ Apart least (some (f + n - 1)) r
theorem Apart.weak {least : Nat} {e : Option Nat} {l : List (Nat × Nat)} (h : Apart least e l) (e' : Nat) (he : ∀ e'', e = some e'' → e' ≤ e'') (hh : e = none → ∀ q ∈ l, e' + 2 ≤ q.1) : Apart least (some e') l := by
  cases l with
  | nil => exact trivial
  | cons q l =>
    obtain ⟨f, n⟩ := q
    cases e with
    | none =>
      obtain ⟨h1, h2, h3, h4⟩ := h
      exact ⟨hh rfl _ (List.mem_cons_self ..), h1, h2, h3, h4⟩
    | some e'' =>
      obtain ⟨h0, h1, h2, h3, h4⟩ := h
      have := he _ rfl
      exact ⟨by omega, h1, h2, h3, h4⟩
theorem rws_nil (least : Nat) : rws least [] = ([], []) := by rw [rws]
theorem rws_cons (least a : Nat) (r : List Nat) : rws least (a :: r) = if 0 < least ∧ least ≤ cons1 a r + 1 then ((a, cons1 a r + 1) :: (rws least (r.drop (cons1 a r))).1, (rws least (r.drop (cons1 a r))).2)
    else ((rws least (r.drop (cons1 a r))).1, a :: r.take (cons1 a r) ++ (rws least (r.drop (cons1 a r))).2) := by rw [rws]
theorem head_row (a : Nat) (r : List Nat) : a :: r.take (cons1 a r) = row (a, cons1 a r + 1) := by
  rw [(cons1_spec a r).1]
  rfl
structure RwsOk (least : Nat) (l : List Nat) (q : List (Nat × Nat) × List Nat) : Prop where
  perm : List.Perm (q.1.flatMap row ++ q.2) l
  sub : List.Sublist q.2 l
  apart : Apart least none q.1
  from_ : ∀ t ∈ q.1, t.1 ∈ l
theorem rws_ok (least : Nat) (l : List Nat) (hl : Ris l) : RwsOk least l (rws least l) := by
  induction hn : l.length using Nat.strongRecOn generalizing l with
  | ind m ih =>
    cases l with
    | nil => rw [rws_nil]; exact ⟨by simp, by simp, trivial, fun t ht => by cases ht⟩
    | cons a r =>
      rw [rws_cons]
      obtain ⟨k, hk⟩ : ∃ k, cons1 a r = k := ⟨_, rfl⟩
      have hr := head_row a r
      have hspec := (cons1_spec a r).2
      rw [hk] at hr hspec ⊢
      have hkl : k ≤ r.length := by rw [← hk]; exact cons1_le a r
      have hsub : List.Sublist (r.drop k) (a :: r) := (List.drop_sublist k r).trans (List.sublist_cons_self a r)
      have hl2 : Ris (r.drop k) := ⟨hl.1.sublist hsub, fun v hv => hl.2 v (hsub.subset hv)⟩
      have IH := ih (r.drop k).length (by rw [List.length_drop]; simp at hn; omega) (r.drop k) hl2 rfl
      obtain ⟨q, hq⟩ : ∃ q, rws least (r.drop k) = q := ⟨_, rfl⟩
      rw [hq] at IH ⊢
      have hsplit : a :: r = row (a, k + 1) ++ r.drop k := by rw [← hr, List.cons_append, List.take_append_drop]
      have hend : a + k < 65536 := by
        have h1 : a + k ∈ row (a, k + 1) := by show _ ∈ List.range' a (k + 1); rw [List.mem_range'_1]; omega
        exact hl.2 _ (by rw [hsplit]; exact List.mem_append_left _ h1)
      have hgap : ∀ v ∈ r.drop k, a + k + 2 ≤ v := by
        have hp := hl.1
        rw [hsplit] at hp
        have hlt := (List.pairwise_append.1 hp).2.2 (a + k) (by show _ ∈ List.range' a (k + 1); rw [List.mem_range'_1]; omega)
        have hp2 := (List.pairwise_append.1 hp).2.1
        intro v hv
        by_cases hkr : k < r.length
        · have h2 := hspec hkr
          rw [List.drop_eq_getElem_cons hkr] at hv hlt hp2
          have h4 := hlt _ (List.mem_cons_self ..)
          rcases List.mem_cons.1 hv with rfl | hv
          · omega
          · have := (List.pairwise_cons.1 hp2).1 v hv
            omega
        · rw [List.drop_eq_nil_of_le (by omega)] at hv
          cases hv
      by_cases hc : 0 < least ∧ least ≤ k + 1
      · rw [if_pos hc]
        refine ⟨?_, IH.sub.trans hsub, ?_, fun t ht => ?_⟩
        · rw [hsplit]
          show List.Perm (row (a, k + 1) ++ q.1.flatMap row ++ q.2) _
          rw [List.append_assoc]
          exact IH.perm.append_left _
        · show least ≤ k + 1 ∧ 0 < k + 1 ∧ a + (k + 1) ≤ 65536 ∧ Apart least (some (a + (k + 1) - 1)) q.1
          refine ⟨hc.2, by omega, by omega, IH.apart.weak _ (fun _ h => by cases h) (fun _ t ht => ?_)⟩
          have := hgap _ (IH.from_ t ht)
          omega
        · rcases List.mem_cons.1 ht with rfl | ht
          · exact List.mem_cons_self ..
          · exact hsub.subset (IH.from_ t ht)
      · rw [if_neg hc]
        refine ⟨?_, ?_, IH.apart, fun t ht => hsub.subset (IH.from_ t ht)⟩
        · rw [hsplit]
          show List.Perm (q.1.flatMap row ++ (a :: r.take k ++ q.2)) _
          rw [hr, ← List.append_assoc]
          refine (List.perm_append_comm.append_right _).trans ?_
          rw [List.append_assoc]
          exact IH.perm.append_left _
        · show List.Sublist (a :: r.take k ++ q.2) (a :: r)
          rw [hsplit, hr]
          exact (List.Sublist.refl _).append IH.sub
theorem rws_zero (l : List Nat) : rws 0 l = ([], l) := by
  induction hn : l.length using Nat.strongRecOn generalizing l with
  | ind m ih =>
    cases l with
    | nil => exact rws_nil 0
    | cons a r =>
      rw [rws_cons, if_neg (by omega), ih (r.drop (cons1 a r)).length (by rw [List.length_drop]; simp at hn; omega) _ rfl]
      simp
end Go.Proofs.YtflnpcgnenhogaaDoor.ls
namespace Go.Proofs.YtflnpcgnenhogaaDoor.ls
open Go.Proofs.YtflnpcgnenhogaaDoor.bit

/-- a number in a code, at most so great, from a place on -/
def tk (B : Bits) (c : Cd) (most a : Nat) : Option (Nat × Nat) := (rd c (B.drop a)).bind fun q => if q.1 ≤ most then some (q.1, a + q.2) else none
/-- runs that are taken: what they copy, what is left of the list, the place -/
def cpy (B : Bits) : Nat → Nat → List Nat → Nat → Option (List Nat × List Nat × Nat)
  | 0, _, ref, a => some ([], ref, a)
  | c + 1, i, ref, a => (tk B .gam ref.length a).bind fun q => if ref.length < q.1 + min i 1 then none else
      (cpy B c (i + 1) (ref.drop (q.1 + min i 1)) q.2).map fun t => ((if i % 2 = 0 then ref.take (q.1 + min i 1) else []) ++ t.1, t.2)
def copies (B : Bits) (ref : List Nat) (a : Nat) : Option (List Nat × Nat) :=
  (tk B .gam (ref.length + 1) a).bind fun q => (cpy B q.1 0 ref q.2).map fun t => (if q.1 % 2 = 0 then t.1 ++ t.2.1 else t.1, t.2.2)
/-- where a row begins -/
def rowFrom (x : Nat) : Option Nat → Nat → Int
  | none, v => zag v + x
  | some e, v => (v : Int) + ((e : Int) + 2)
def lng (B : Bits) (x most itv : Nat) : Nat → Option Nat → Nat → Nat → Option (List Nat × Nat)
  | 0, _, _, a => some ([], a)
  | c + 1, e, used, a => (tk B .gam 262144 a).bind fun q => (tk B .gam most q.2).bind fun q2 =>
      if rowFrom x e q.1 < 0 ∨ 65536 < rowFrom x e q.1 + ((q2.1 + itv : Nat) : Int) ∨ most < used + (q2.1 + itv) then none else
      (lng B x most itv c (some ((rowFrom x e q.1).toNat + (q2.1 + itv) - 1)) (used + (q2.1 + itv)) q2.2).map fun t => (row ((rowFrom x e q.1).toNat, q2.1 + itv) ++ t.1, t.2)
def longs (B : Bits) (x most itv a : Nat) : Option (List Nat × Nat) := (tk B .gam most a).bind fun q => lng B x most itv q.1 none 0 q.2
/-- what a residual is -/
def resAt (x : Nat) : Option Nat → Nat → Int
  | none, v => zag v + x
  | some u, v => (v : Int) + ((u : Int) + 1)
def rsd (B : Bits) (x zet : Nat) : Nat → Option Nat → Nat → Option (List Nat × Nat)
  | 0, _, a => some ([], a)
  | n + 1, e, a => (tk B (.zet zet) 262144 a).bind fun q => if resAt x e q.1 < 0 ∨ 65536 ≤ resAt x e q.1 then none else
      (rsd B x zet n (some (resAt x e q.1).toNat) q.2).map fun t => ((resAt x e q.1).toNat :: t.1, t.2)
/-- what is copied, what rows say, what is left; the place behind -/
def pars (B : Bits) (x deg : Nat) (ref : List Nat) (r : Nat) (p : Pr) (a : Nat) : Option (List Nat × List Nat × List Nat × Nat) :=
  (if 0 < r then copies B ref a else some ([], a)).bind fun c =>
  if deg < c.1.length then none else
  (if c.1.length < deg ∧ 0 < p.itv then longs B x (deg - c.1.length) p.itv c.2 else some ([], c.2)).bind fun l =>
  (rsd B x p.zet (deg - c.1.length - l.1.length) none l.2).map fun z => (c.1, l.1, z.1, z.2)
def srtN (l : List Nat) : List Nat := l.mergeSort fun a b => decide (a ≤ b)
theorem srtN_perm (l : List Nat) : List.Perm (srtN l) l := List.mergeSort_perm _ _
theorem isIn_mem {l : List Nat} {v : Nat} : isIn l v = true ↔ v ∈ l := by unfold isIn; simp

theorem sumLen (l : List (Nat × Nat)) : (l.flatMap row).length = sum (l.map (·.2)) := by
  induction l with
  | nil => rfl
  | cons q l ih =>
    rw [List.flatMap_cons, List.length_append, ih, row, List.length_range']
    rfl
theorem zig_lt {v x : Nat} (hv : v < 65536) (hx : x < 65536) : zig ((v : Int) - x) ≤ 262144 := by
  unfold zig
  split <;> omega
theorem Ris.len {l : List Nat} (h : Ris l) : l.length ≤ 65536 := by
  have key : ∀ (l : List Nat) (b : Nat), l.Pairwise (· < ·) → (∀ v ∈ l, b ≤ v ∧ v < 65536) → b ≤ 65536 → l.length + b ≤ 65536 := by
    intro l
    induction l with
    | nil => intro b _ _ h; simpa using h
    | cons a l ih =>
      intro b h1 h2 _
      obtain ⟨p1, p2⟩ := List.pairwise_cons.1 h1
      have ha := h2 a (List.mem_cons_self ..)
      have := ih (a + 1) p2 (fun v hv => ⟨p1 v hv, (h2 v (List.mem_cons_of_mem _ hv)).2⟩) (by omega)
      simp only [List.length_cons]
      omega
  have := key l 0 h.1 (fun v hv => ⟨Nat.zero_le _, h.2 v hv⟩) (by omega)
  omega
/-- what may be encoded -/
def MayN (x : Nat) (succ ref : List Nat) (r : Nat) (p : Pr) : Prop := p.ok ∧ x < 65536 ∧ Ris succ ∧ Ris ref ∧ r ≤ p.win ∧ (0 < r ∨ ref = [])
end Go.Proofs.YtflnpcgnenhogaaDoor.ls
namespace Go.Proofs.YtflnpcgnenhogaaDoor.ls
open Go.RowKit Go.Proofs.YtflnpcgnenhogaaDoor.own Go.Proofs.YtflnpcgnenhogaaDoor.bit

/-- a list of numbers of 32 bits in memory that is only read -/
def LV (w : World) (a : Option Addr) (l : List Nat) : Prop :=
  l.length ≤ 4611686018427387903 ∧ ∀ i (h : i < l.length), ∃ g o, a = some ⟨g, o, none⟩ ∧ g < w.heap.size ∧ w.cell? ⟨g, o + i, none⟩ = some (.int .u32 (l[i] : Int)) ∧ l[i] < 4294967296
theorem LV.below {w w' : World} {a : Option Addr} {l : List Nat} (h : LV w a l) (k : Below w.heap.size w w') : LV w' a l :=
  ⟨h.1, fun i hi => by
    obtain ⟨g, o, h1, h2, h3, h4⟩ := h.2 i hi
    exact ⟨g, o, h1, Nat.lt_of_lt_of_le h2 k.size, (k.cell (p := ⟨g, o + i, none⟩) h2).trans h3, h4⟩⟩
theorem ris_iff (l : List Nat) : Ris l ↔ ∀ i (h : i < l.length), l[i] < 65536 ∧ ∀ h0 : 0 < i, l[i - 1] < l[i] := by
  constructor
  · intro h i hi
    exact ⟨h.2 _ (List.getElem_mem hi), fun h0 => List.pairwise_iff_getElem.1 h.1 (i - 1) i (by omega) hi (by omega)⟩
  · intro h
    refine ⟨List.pairwise_iff_getElem.2 fun i j hi hj hij => ?_, fun v hv => ?_⟩
    · obtain ⟨k, hk⟩ : ∃ k, j = i + 1 + k := ⟨j - i - 1, by omega⟩
      clear hij
      induction k generalizing j with
      | zero =>
        subst hk
        exact (h (i + 1) (by omega)).2 (by omega)
      | succ k ih =>
        have h1 := ih (i + 1 + k) (by omega) rfl
        have h2 := (h j hj).2 (by omega)
        have e : j - 1 = i + 1 + k := by omega
        simp only [e] at h2
        omega
    · obtain ⟨i, hi, rfl⟩ := List.mem_iff_getElem.1 hv
      exact (h i hi).1

def parV (win itv zet : Int) : Value := .agg #[.int .i64 win, .int .i64 itv, .int .i64 zet]
def ParOk (win itv zet : Int) : Prop := 0 ≤ win ∧ win ≤ 16 ∧ (itv = 0 ∨ 2 ≤ itv ∧ itv ≤ 64) ∧ 1 ≤ zet ∧ zet ≤ 16
instance (win itv zet : Int) : Decidable (ParOk win itv zet) := by unfold ParOk; exact inferInstance
/-- an answer that says whether something is so -/
def YesNo (P : Prop) (w : World) (e : Ending) (w' : World) : Prop := ∃ b : Bool, e = .returned (.bool b) ∧ (b = true ↔ P) ∧ w = w'
theorem vertex_any (z : Int) (w : World) : Calls Tryd.prog 41 #[.int .i64 z] w fun e w' => e = .returned (.bool (decide (0 ≤ z ∧ z < 65536))) ∧ w = w' := by
  by_cases h0 : 0 ≤ z
  · have e : decide (0 ≤ z ∧ z < 65536) = decide (z < 65536) := decide_eq_decide.2 ⟨fun h => h.2, fun h => ⟨h0, h⟩⟩
    rw [e]
    go_enter Tryd.func41, Tryd.ntmps41
    go_wp2_with fail
    go_ret
    exact ⟨rfl, rfl⟩
  · have e : decide (0 ≤ z ∧ z < 65536) = false := decide_eq_false (fun h => h0 h.1)
    rw [e]
    go_enter Tryd.func41, Tryd.ntmps41
    go_wp2_with fail
    go_ret
    exact ⟨rfl, rfl⟩
set_option maxRecDepth 100000 in
set_option maxHeartbeats 1600000 in
theorem pcheck_any (win itv zet : Int) (w : World) : Calls Tryd.prog 16 #[parV win itv zet] w fun e w' => e = .returned (.int .i64 (if ParOk win itv zet then 0 else 1)) ∧ Below w.heap.size w w' := by
  unfold parV
  obtain ⟨k, hk⟩ : ∃ k : Int, (if ParOk win itv zet then 0 else 1) = k := ⟨_, rfl⟩
  rw [hk]
  have HK := Lib.hid hk
  clear hk
  have yes : ParOk win itv zet → k = 0 := fun h => by have := HK.out; rw [if_pos h] at this; exact this.symm
  have no : ¬ ParOk win itv zet → k = 1 := fun h => by have := HK.out; rw [if_neg h] at this; exact this.symm
  have YES := Lib.hid yes
  have NO := Lib.hid no
  clear yes no HK
  by_cases h1 : win < 0
  · obtain rfl := NO.out (fun h => by have := h.1; omega)
    clear YES NO
    go_enter Tryd.func16, Tryd.ntmps16
    go_wp2_with fail
    go_ret
    exact ⟨rfl, (by repeat (first | exact Below.refl _ _ | refine below_drewN ?_ _ | refine Below.setCell ?_ (by simp; try omega) _ | refine Below.alloc ?_ (by simp; try omega) _))⟩
  by_cases h2 : 16 < win
  · obtain rfl := NO.out (fun h => by have := h.2.1; omega)
    clear YES NO
    go_enter Tryd.func16, Tryd.ntmps16
    go_wp2_with fail
    go_ret
    exact ⟨rfl, (by repeat (first | exact Below.refl _ _ | refine below_drewN ?_ _ | refine Below.setCell ?_ (by simp; try omega) _ | refine Below.alloc ?_ (by simp; try omega) _))⟩
  by_cases h3 : zet < 1
  · obtain rfl := NO.out (fun h => by have := h.2.2.2.1; omega)
    clear YES NO
    go_enter Tryd.func16, Tryd.ntmps16
    go_wp2_with fail
    go_ret
    exact ⟨rfl, (by repeat (first | exact Below.refl _ _ | refine below_drewN ?_ _ | refine Below.setCell ?_ (by simp; try omega) _ | refine Below.alloc ?_ (by simp; try omega) _))⟩
  by_cases h4 : 16 < zet
  · obtain rfl := NO.out (fun h => by have := h.2.2.2.2; omega)
    clear YES NO
    go_enter Tryd.func16, Tryd.ntmps16
    go_wp2_with fail
    go_ret
    exact ⟨rfl, (by repeat (first | exact Below.refl _ _ | refine below_drewN ?_ _ | refine Below.setCell ?_ (by simp; try omega) _ | refine Below.alloc ?_ (by simp; try omega) _))⟩
  by_cases h5 : itv = 0
  · obtain rfl := YES.out ⟨by omega, by omega, .inl h5, by omega, by omega⟩
    have h5' : (itv != 0) = false := by rw [h5]; rfl
    subst h5
    clear YES NO
    go_enter Tryd.func16, Tryd.ntmps16
    go_wp2_with fail
    go_ret
    exact ⟨rfl, (by repeat (first | exact Below.refl _ _ | refine below_drewN ?_ _ | refine Below.setCell ?_ (by simp; try omega) _ | refine Below.alloc ?_ (by simp; try omega) _))⟩
  have h5' : (itv != 0) = true := by simpa using h5
  by_cases h6 : itv < 2
  · obtain rfl := NO.out (fun h => by have := h.2.2.1; omega)
    clear YES NO
    go_enter Tryd.func16, Tryd.ntmps16
    go_wp2_with fail
    go_ret
    exact ⟨rfl, (by repeat (first | exact Below.refl _ _ | refine below_drewN ?_ _ | refine Below.setCell ?_ (by simp; try omega) _ | refine Below.alloc ?_ (by simp; try omega) _))⟩
  by_cases h7 : 64 < itv
  · obtain rfl := NO.out (fun h => by have := h.2.2.1; omega)
    clear YES NO
    go_enter Tryd.func16, Tryd.ntmps16
    go_wp2_with fail
    go_ret
    exact ⟨rfl, (by repeat (first | exact Below.refl _ _ | refine below_drewN ?_ _ | refine Below.setCell ?_ (by simp; try omega) _ | refine Below.alloc ?_ (by simp; try omega) _))⟩
  obtain rfl := YES.out ⟨by omega, by omega, .inr ⟨by omega, by omega⟩, by omega, by omega⟩
  clear YES NO
  go_enter Tryd.func16, Tryd.ntmps16
  go_wp2_with fail
  go_ret
  exact ⟨rfl, (by repeat (first | exact Below.refl _ _ | refine below_drewN ?_ _ | refine Below.setCell ?_ (by simp; try omega) _ | refine Below.alloc ?_ (by simp; try omega) _))⟩

set_option maxRecDepth 100000 in
set_option maxHeartbeats 1600000 in
theorem succ_any (w : World) (a : Option Addr) (l : List Nat) (cap : Nat) (h : LV w a l) : Calls Tryd.prog 42 #[.slice a l.length cap] w (YesNo (Ris l) w) := by
  have H := Lib.hid h.2
  have hz := h.1
  have R := Lib.hid (ris_iff l)
  clear h
  obtain ⟨n, hn⟩ : ∃ n, l.length = n := ⟨_, rfl⟩
  have HN := Lib.hid hn
  rw [hn] at hz ⊢
  clear hn
  go_enter Tryd.func42, Tryd.ntmps42
  go_wp2_with fail
  go_loopw [7] (fun vi wr => ∃ i : Nat, vi = .int .i64 (i : Int) ∧ i ≤ n ∧ wr = w ∧ ∀ j (hj : j < l.length), j < i → l[j] < 65536 ∧ ∀ h0 : 0 < j, l[j - 1] < l[j]) (fun vi _ => n - (intOf vi).toNat)
  case atStart => exact ⟨0, rfl, Nat.zero_le _, rfl, fun j _ h => by omega⟩
  case round =>
    obtain ⟨i, rfl, hi, rfl, hj⟩ := hrel
    have HJ := Lib.hid hj
    clear hj
    by_cases hlt : i < n
    · obtain ⟨g, o, rfl, hg, hc, hb⟩ := H.out i (by rw [HN.out]; exact hlt)
      obtain ⟨v, hv⟩ : ∃ v, l[i]'(by rw [HN.out]; exact hlt) = v := ⟨_, rfl⟩
      rw [hv] at hc hb
      have HV := Lib.hid hv
      have i1 : (i : Int) < (n : Int) := by omega
      by_cases h65 : v < 65536
      · have j1 : decide ((65536 : Int) ≤ (v : Int)) = false := decide_eq_false (by omega)
        by_cases h0 : 0 < i
        · obtain ⟨g', o', he, hg', hc', hb'⟩ := H.out (i - 1) (by rw [HN.out]; omega)
          obtain ⟨rfl, rfl⟩ : g' = g ∧ o' = o := by injection he with he; injection he with e1 e2; exact ⟨e1.symm, e2.symm⟩
          obtain ⟨u, hu⟩ : ∃ u, l[i - 1]'(by rw [HN.out]; omega) = u := ⟨_, rfl⟩
          rw [hu] at hc' hb'
          have HU := Lib.hid hu
          have j2 : decide ((0 : Int) < (i : Int)) = true := decide_eq_true (by omega)
          have j3 : IntKind.i64.wrap ((i : Int) - 1) = ((i - 1 : Nat) : Int) := by rw [IntWalk.i64_in _ (by omega)]; omega
          have j4 : ((i - 1 : Nat) : Int) < (n : Int) := by omega
          have j5 : (0 : Int) ≤ ((i - 1 : Nat) : Int) := Int.natCast_nonneg _
          clear hv hu he
          by_cases huv : u < v
          · have j6 : decide ((v : Int) ≤ (u : Int)) = false := decide_eq_false (by omega)
            go_wp2_with fail
            go_roundw
            case rel =>
              refine ⟨i + 1, by go_num, by omega, by trivial, fun j hj hji => ?_⟩
              by_cases hji2 : j = i
              · subst hji2
                have e1 := HV.out
                have e2 := HU.out
                exact ⟨by omega, fun _ => by omega⟩
              · exact HJ.out j hj (by omega)
            case measure => simp [intOf]; omega
          · have j6 : decide ((v : Int) ≤ (u : Int)) = true := decide_eq_true (by omega)
            go_wp2_with fail
            go_ret
            refine ⟨false, rfl, ?_, rfl⟩
            rw [R.out]
            refine ⟨fun h => (by cases h), fun h => ?_⟩
            have h1 := (h i (by rw [HN.out]; exact hlt)).2 h0
            have e1 := HV.out
            have e2 := HU.out
            omega
        · have j2 : decide ((0 : Int) < (i : Int)) = false := decide_eq_false (by omega)
          clear hv
          go_wp2_with fail
          go_roundw
          case rel =>
            refine ⟨i + 1, by go_num, by omega, by trivial, fun j hj hji => ?_⟩
            by_cases hji2 : j = i
            · subst hji2
              have e1 := HV.out
              exact ⟨by omega, fun h => absurd h h0⟩
            · exact HJ.out j hj (by omega)
          case measure => simp [intOf]; omega
      · have j1 : decide ((65536 : Int) ≤ (v : Int)) = true := decide_eq_true (by omega)
        clear hv
        go_wp2_with fail
        go_ret
        refine ⟨false, rfl, ?_, rfl⟩
        rw [R.out]
        refine ⟨fun h => (by cases h), fun h => ?_⟩
        have h1 := (h i (by rw [HN.out]; exact hlt)).1
        have e1 := HV.out
        omega
    · have i1 : ¬ (i : Int) < (n : Int) := by omega
      go_wp2_with fail
      go_ret
      refine ⟨true, rfl, ?_, rfl⟩
      rw [R.out]
      exact ⟨fun _ j hj => HJ.out j hj (by rw [HN.out] at hj; omega), fun _ => rfl⟩
end Go.Proofs.YtflnpcgnenhogaaDoor.ls
namespace Go.Proofs.YtflnpcgnenhogaaDoor.ls
open Go.RowKit Go.Proofs.YtflnpcgnenhogaaDoor.own Go.Proofs.YtflnpcgnenhogaaDoor.bit

def MayI (win itv zet x : Int) (succ ref : List Nat) (r : Int) : Prop := ParOk win itv zet ∧ (0 ≤ x ∧ x < 65536) ∧ Ris succ ∧ Ris ref ∧ 0 ≤ r ∧ r ≤ win ∧ (0 < r ∨ ref = [])
def YesNoB (P : Prop) (w : World) (e : Ending) (w' : World) : Prop := ∃ b : Bool, e = .returned (.bool b) ∧ (b = true ↔ P) ∧ Below w.heap.size w w'
theorem YesNoB.no {P : Prop} {w w' : World} (h : ¬ P) (k : Below w.heap.size w w') : YesNoB P w (.returned (.bool false)) w' := ⟨false, rfl, ⟨(fun h => by cases h), fun h' => absurd h' h⟩, k⟩
theorem YesNoB.yes {P : Prop} {w w' : World} (h : P) (k : Below w.heap.size w w') : YesNoB P w (.returned (.bool true)) w' := ⟨true, rfl, ⟨fun _ => h, fun _ => rfl⟩, k⟩
set_option maxRecDepth 100000 in
set_option maxHeartbeats 3200000 in
theorem lmay_any (win itv zet x : Int) (w : World) (a : Option Addr) (l : List Nat) (cap : Nat) (h : LV w a l) (b : Option Addr) (m : List Nat) (capb : Nat) (hb : LV w b m) (r : Int) :
    Calls Tryd.prog 33 #[parV win itv zet, .int .i64 x, .slice a l.length cap, .slice b m.length capb, .int .i64 r] w (YesNoB (MayI win itv zet x l m r) w) := by
  have CK := Lib.hid (fun W => pcheck_any win itv zet W)
  have VX := Lib.hid (fun W => vertex_any x W)
  have S1 := Lib.hid (fun W (k : Below w.heap.size w W) => succ_any W a l cap (h.below k))
  have S2 := Lib.hid (fun W (k : Below w.heap.size w W) => succ_any W b m capb (hb.below k))
  obtain ⟨P, hP⟩ : ∃ P, MayI win itv zet x l m r = P := ⟨_, rfl⟩
  have HP := Lib.hid hP
  rw [hP]
  have hm0 : (m = [] ↔ m.length = 0) := List.length_eq_zero_iff.symm
  have HM0 := Lib.hid hm0
  unfold MayI at HP
  clear h hb hP hm0
  by_cases hp : ParOk win itv zet
  · rw [if_pos hp] at CK
    by_cases hx : 0 ≤ x ∧ x < 65536
    · rw [decide_eq_true hx] at VX
      unfold parV at CK ⊢
      go_enter Tryd.func33, Tryd.ntmps33
      go_wp2_with fail
      with_reducible refine (CK.out _).mono ?_
      rintro e w1 ⟨rfl, k1⟩
      have r1 := box_keeps k1
      have c0 : w1.cell? ⟨w.heap.size, 0, none⟩ = some (.int .i64 win) := by rw [cell_of_row _ _ _ _ _ _ r1]; rfl
      have K1 := Lib.hid (below_alloc k1)
      clear r1 k1
      go_wp2_with fail
      with_reducible refine (VX.out _).mono ?_
      rintro e w2 ⟨rfl, rfl⟩
      go_wp2_with fail
      with_reducible refine (S1.out _ K1.out).mono ?_
      rintro e w2 ⟨b1, rfl, hb1, rfl⟩
      have HB1 := Lib.hid hb1
      clear hb1
      cases b1
      · have NP : Hid (¬ P) := Lib.hid (by rw [← HP.out]; intro h; have := HB1.out.2 h.2.2.1; cases this)
        go_wp2_with fail
        go_ret
        exact YesNoB.no NP.out K1.out
      · go_wp2_with fail
        with_reducible refine (S2.out _ K1.out).mono ?_
        rintro e w2 ⟨b2, rfl, hb2, rfl⟩
        have HB2 := Lib.hid hb2
        clear hb2
        cases b2
        · have NP : Hid (¬ P) := Lib.hid (by rw [← HP.out]; intro h; have := HB2.out.2 h.2.2.2.1; cases this)
          go_wp2_with fail
          go_ret
          exact YesNoB.no NP.out K1.out
        · by_cases hr0 : 0 ≤ r
          · by_cases hrw : r ≤ win
            · by_cases hr1 : 0 < r
              · have NP : Hid (P) := Lib.hid (by rw [← HP.out]; exact ⟨hp, hx, HB1.out.1 (by trivial), HB2.out.1 (by trivial), hr0, hrw, .inl hr1⟩)
                go_wp2_with fail
                go_ret
                exact YesNoB.yes NP.out K1.out
              · have hd : decide (0 < r) = false := decide_eq_false hr1
                by_cases hm : m.length = 0
                · have hm2 : ((m.length : Int) == 0) = true := by rw [hm]; rfl
                  have NP : Hid (P) := Lib.hid (by rw [← HP.out]; exact ⟨hp, hx, HB1.out.1 (by trivial), HB2.out.1 (by trivial), hr0, hrw, .inr (HM0.out.2 hm)⟩)
                  go_wp2_with fail
                  go_ret
                  exact YesNoB.yes NP.out K1.out
                · have hm2 : ((m.length : Int) == 0) = false := beq_eq_false_iff_ne.2 (by omega)
                  have NP : Hid (¬ P) := Lib.hid (by rw [← HP.out]; intro h; rcases h.2.2.2.2.2.2 with h1 | h1; exact hr1 h1; exact hm (HM0.out.1 h1))
                  go_wp2_with fail
                  go_ret
                  exact YesNoB.no NP.out K1.out
            · have NP : Hid (¬ P) := Lib.hid (by rw [← HP.out]; intro h; exact hrw h.2.2.2.2.2.1)
              go_wp2_with fail
              go_ret
              exact YesNoB.no NP.out K1.out
          · have NP : Hid (¬ P) := Lib.hid (by rw [← HP.out]; intro h; exact hr0 h.2.2.2.2.1)
            go_wp2_with fail
            go_ret
            exact YesNoB.no NP.out K1.out
    · rw [decide_eq_false hx] at VX
      unfold parV at CK ⊢
      go_enter Tryd.func33, Tryd.ntmps33
      go_wp2_with fail
      with_reducible refine (CK.out _).mono ?_
      rintro e w1 ⟨rfl, k1⟩
      have K1 := Lib.hid (below_alloc k1)
      clear k1
      go_wp2_with fail
      with_reducible refine (VX.out _).mono ?_
      rintro e w2 ⟨rfl, rfl⟩
      have NP : Hid (¬ P) := Lib.hid (by rw [← HP.out]; intro h; exact hx h.2.1)
      go_wp2_with fail
      go_ret
      exact YesNoB.no NP.out K1.out
  · rw [if_neg hp] at CK
    unfold parV at CK ⊢
    go_enter Tryd.func33, Tryd.ntmps33
    go_wp2_with fail
    with_reducible refine (CK.out _).mono ?_
    rintro e w1 ⟨rfl, k1⟩
    have K1 := Lib.hid (below_alloc k1)
    clear k1
    have NP : Hid (¬ P) := Lib.hid (by rw [← HP.out]; intro h; exact hp h.1)
    go_wp2_with fail
    go_ret
    exact YesNoB.no NP.out K1.out
end Go.Proofs.YtflnpcgnenhogaaDoor.ls
namespace Go.Proofs.YtflnpcgnenhogaaDoor.ls
open Go.RowKit Go.Proofs.YtflnpcgnenhogaaDoor.own Go.Proofs.YtflnpcgnenhogaaDoor.bit

theorem Tryd.infoU32 : (Tryd.prog.info? 60).map (fun i => (i.zero, i.size, i.bytes)) = some (some (.int .u32 0), 1, 4) := by kernel_rfl
theorem Tryd.infoRow : (Tryd.prog.info? 126).map (fun i => (i.zero, i.size, i.bytes)) = some (some (.agg #[.int .i64 0, .int .i64 0]), 2, 16) := by kernel_rfl
def prV (L : List (Nat × Nat)) : List Value := L.flatMap fun q => [.int .i64 (q.1 : Int), .int .i64 (q.2 : Int)]
def u32V (l : List Nat) : List Value := l.map fun (n : Nat) => Value.int .u32 (n : Int)
theorem prV_snoc (L : List (Nat × Nat)) (q : Nat × Nat) : prV (L ++ [q]) = prV L ++ [.int .i64 (q.1 : Int), .int .i64 (q.2 : Int)] := by unfold prV; rw [List.flatMap_append]; rfl
theorem u32V_append (a b : List Nat) : u32V (a ++ b) = u32V a ++ u32V b := List.map_append ..
theorem u32_one (l : List Nat) : ∀ u ∈ u32V l, u.oneCell' = true := by intro u hu; obtain ⟨n, -, rfl⟩ := List.mem_map.1 hu; rfl
theorem pr_one (a b : Int) : ∀ u ∈ [Value.int .i64 a, Value.int .i64 b], u.oneCell' = true := by intro u hu; simp at hu; rcases hu with rfl | rfl <;> rfl
/-- two rows of the call's own, apart -/
def RW2 (w : World) (L : List (Nat × Nat)) (v1 : Value) (R : List Nat) (v2 : Value) (W : World) : Prop :=
  Below w.heap.size w W ∧ W.ownsRow w.heap.size 126 2 v1 L.length (prV L) ∧ W.ownsRow w.heap.size 60 1 v2 R.length (u32V R) ∧ ∀ g, v1.ownBlock = some g → v2.ownBlock ≠ some g
theorem RW2.next {w W W2 : World} {L : List (Nat × Nat)} {R : List Nat} {v1 v2 : Value} (h : RW2 w L v1 R v2 W) (k : Below W.heap.size W W2) : RW2 w L v1 R v2 W2 :=
  ⟨h.1.trans (k.mono h.1.size), own_below h.2.1 k, own_below h.2.2.1 k, h.2.2.2⟩
theorem RW2.drewN {w W : World} {L : List (Nat × Nat)} {R : List Nat} {v1 v2 : Value} (h : RW2 w L v1 R v2 W) (n : Nat) : RW2 w L v1 R v2 (W.drewN n) := h.next ⟨rfl, rfl, rfl, Nat.le_refl _, fun _ _ => rfl⟩
theorem RW2.add1 {w W W2 : World} {L : List (Nat × Nat)} {R : List Nat} {v1 v2 v' : Value} (h : RW2 w L v1 R v2 W) (q : Nat × Nat) (own : W2.ownsRow w.heap.size 126 2 v' (L.length + 1) (prV L ++ [.int .i64 (q.1 : Int), .int .i64 (q.2 : Int)])) (hg : W.grownBy W2 v1.ownBlock)
    (hw : v'.ownBlock = v1.ownBlock ∨ v'.ownBlock = some W.heap.size) : RW2 w (L ++ [q]) v' R v2 W2 := by
  obtain ⟨hb, h1, h2, hne⟩ := h
  refine ⟨hb.grown hg hb.size (fun k hk => (h1.lt k hk).1), by rw [prV_snoc, List.length_append]; exact own, h2.kept hg ?_, fun g hgv => ?_⟩
  · rcases hv : v2.ownBlock with _ | b
    · exact .inl rfl
    · exact .inr (fun e2 => hne b e2.symm hv)
  · rcases hw with e | e
    · exact hne g (e ▸ hgv)
    · intro e2
      rw [e] at hgv
      injection hgv with hgv
      have := (h2.lt g e2).2
      omega
theorem RW2.add2 {w W W2 : World} {L : List (Nat × Nat)} {R : List Nat} {v1 v2 v' : Value} (h : RW2 w L v1 R v2 W) (l : List Nat) (m : Nat) (hm : l.length = m) (own : W2.ownsRow w.heap.size 60 1 v' (R.length + m) (u32V R ++ u32V l)) (hg : W.grownBy W2 v2.ownBlock)
    (hw : v'.ownBlock = v2.ownBlock ∨ v'.ownBlock = some W.heap.size) : RW2 w L v1 (R ++ l) v' W2 := by
  obtain ⟨hb, h1, h2, hne⟩ := h
  refine ⟨hb.grown hg hb.size (fun k hk => (h2.lt k hk).1), h1.kept hg ?_, by rw [u32V_append, List.length_append, hm]; exact own, fun g hgv => ?_⟩
  · rcases hv : v1.ownBlock with _ | b
    · exact .inl rfl
    · exact .inr (fun e2 => hne b hv e2.symm)
  · rcases hw with e | e
    · rw [e]; exact hne g hgv
    · intro e2
      rw [e] at e2
      injection e2 with e2
      have := (h1.lt g hgv).2
      omega

/-- the list without its first numbers -/
theorem LV.drop {w : World} {g o : Nat} {l : List Nat} (h : LV w (some ⟨g, o, none⟩) l) (k : Nat) : LV w (some ⟨g, o + k, none⟩) (l.drop k) := by
  refine ⟨by rw [List.length_drop]; have := h.1; omega, fun i hi => ?_⟩
  rw [List.length_drop] at hi
  obtain ⟨g', o', e, h2, h3, h4⟩ := h.2 (k + i) (by omega)
  injection e with e
  injection e with e1 e2
  subst e1 e2
  refine ⟨g, o + k, rfl, h2, ?_, ?_⟩
  · rw [Nat.add_assoc, h3, List.getElem_drop]
  · rw [List.getElem_drop]; exact h4
theorem LV.cells {w : World} {g o : Nat} {l : List Nat} (h : LV w (some ⟨g, o, none⟩) l) (k : Nat) : ∀ j u, (u32V (l.take k))[j]? = some u → w.cell? ((⟨g, o, none⟩ : Addr).add j) = some u := by
  intro j u hu
  have hj : j < (l.take k).length := by
    have := (List.getElem?_eq_some_iff.1 hu).1
    simpa [u32V] using this
  have hj2 : j < l.length := by rw [List.length_take] at hj; omega
  obtain ⟨g', o', e, h2, h3, h4⟩ := h.2 j hj2
  injection e with e
  injection e with e1 e2
  subst e1 e2
  rw [Addr.add_lit, h3]
  unfold u32V at hu
  rw [List.getElem?_map, List.getElem?_eq_getElem hj, List.getElem_take] at hu
  exact hu
theorem LV.addr {w : World} {a : Option Addr} {l : List Nat} (h : LV w a l) (h0 : 0 < l.length) : ∃ g o, a = some ⟨g, o, none⟩ := by
  obtain ⟨g, o, e, _⟩ := h.2 0 h0
  exact ⟨g, o, e⟩

theorem drewN_add (w : World) (a b : Nat) : (w.drewN a).drewN b = w.drewN (a + b) := by
  unfold World.drewN
  simp [Nat.add_assoc]
def sliceLen : Value → Nat
  | .slice _ n _ => n
  | _ => 0
/-- what rows answers -/
def RowsP (w : World) (q : List (Nat × Nat) × List Nat) (e : Ending) (w' : World) : Prop := ∃ v1 v2, e = .returned (.tuple #[v1, v2]) ∧ RW2 w q.1 v1 q.2 v2 w'
set_option maxRecDepth 100000 in
set_option maxHeartbeats 6400000 in
theorem rows_any (w : World) (a : Option Addr) (l : List Nat) (cap least : Nat) (hcap : l.length ≤ cap) (hl : least ≤ 64) (h : LV w a l) (hr : Ris l) :
    Calls Tryd.prog 57 #[.slice a l.length cap, .int .i64 (least : Int)] w (RowsP w (rws least l)) := by
  obtain ⟨i0, hi, hz0, hz1, hz2⟩ := info_parts Tryd.infoRow
  obtain ⟨j0, hj, hj0, hj1, hj2⟩ := info_parts Tryd.infoU32
  have hlen := hr.len
  have H0 : Hid (RW2 w [] (.slice none 0 0) [] (.slice none 0 0) w) := Lib.hid ⟨Below.refl _ _, World.ownsRow_nil _ _ _ _, World.ownsRow_nil _ _ _ _, fun g hg => by cases hg⟩
  have H := Lib.hid h
  have HR := Lib.hid hr
  obtain ⟨Q, hQ⟩ : ∃ Q, rws least l = Q := ⟨_, rfl⟩
  have HQ := Lib.hid hQ
  rw [hQ]
  clear h hr hQ
  go_enter Tryd.func57, Tryd.ntmps57
  go_wp2_with fail
  go_loopw [0, 4, 5] (fun vl v1 v2 wr => ∃ (a' : Option Addr) (l' : List Nat) (cap' : Nat) (L : List (Nat × Nat)) (R : List Nat), vl = .slice a' l'.length cap' ∧ l'.length ≤ cap' ∧ cap' ≤ cap ∧ LV w a' l' ∧ Ris l' ∧ Q = (L ++ (rws least l').1, R ++ (rws least l').2) ∧ L.length + R.length + l'.length ≤ l.length ∧ RW2 w L v1 R v2 wr)
    (fun vl _ _ _ => sliceLen vl)
  case atStart => exact ⟨a, l, cap, [], [], rfl, hcap, Nat.le_refl _, H.out, HR.out, by rw [HQ.out]; rfl, by simp, H0.out⟩
  case round =>
    obtain ⟨a', l', cap', L, R, rfl, hc1, hc2, hLV, hRis, hQ, hbd, hW⟩ := hrel
    have HQ2 := Lib.hid hQ
    have HW := Lib.hid hW
    obtain ⟨s1, d1, rfl⟩ := own_shape hW.2.1
    obtain ⟨s2, d2, rfl⟩ := own_shape hW.2.2.1
    clear hQ hW
    cases l' with
    | nil =>
      have FIN : Hid (Q = (L, R)) := Lib.hid (by rw [HQ2.out, rws_nil, List.append_nil, List.append_nil])
      simp only [List.length_nil]
      go_wp2_with fail
      go_ret2
      rw [FIN.out]
      exact ⟨_, _, rfl, HW.out⟩
    | cons a0 r =>
      obtain ⟨g, o, rfl⟩ := hLV.addr (by simp)
      have HLV := Lib.hid (hLV.below HW.out.1)
      have HLVw := Lib.hid hLV
      have ha0 := hRis.2 a0 (List.mem_cons_self ..)
      have hrl := hRis.len
      obtain ⟨K, hK⟩ : ∃ K, cons1 a0 r = K := ⟨_, rfl⟩
      have CS := Lib.hid (cons1_spec a0 r)
      have hKl : K ≤ r.length := by rw [← hK]; exact cons1_le a0 r
      rw [hK] at CS
      have HRis := Lib.hid hRis
      have RC := Lib.hid (rws_cons least a0 r)
      rw [hK] at RC
      obtain ⟨N, hN⟩ : ∃ N, (a0 :: r).length = N := ⟨_, rfl⟩
      have hN2 : N = r.length + 1 := by rw [← hN]; simp
      rw [hN] at hc1 hrl hbd ⊢
      have HN := Lib.hid hN
      have HK := Lib.hid hK
      have HN2 := Lib.hid hN2
      have c0 : wr.cell? ⟨g, o, none⟩ = some (.int .u32 (a0 : Int)) := by
        obtain ⟨g', o', e, _, h3, _⟩ := HLV.out.2 0 (by simp)
        injection e with e
        injection e with e1 e2
        subst e1 e2
        simpa using h3
      have hNp : (0 : Int) < (N : Int) := by omega
      clear hLV hRis hK hN hN2
      go_upto_block 2 with fail
      go_cut [6] from 10 to 29 (fun v6 wc => v6 = .int .i64 ((K + 1 : Nat) : Int) ∧ ∃ q, wc = wr.drewN q)
      case first =>
        go_wp2_with fail
        go_loopw [6] (fun v6 wc => ∃ k q : Nat, v6 = .int .i64 ((k + 1 : Nat) : Int) ∧ k ≤ K ∧ wc = wr.drewN q) (fun v6 _ => N - (intOf v6).toNat)
        case atStart => exact ⟨0, 0, rfl, Nat.zero_le _, rfl⟩
        case round =>
          rename_i wq
          obtain ⟨k, q, rfl, hk, rfl⟩ := hrel
          obtain ⟨kk, hkk⟩ : ∃ kk, k + 1 = kk := ⟨_, rfl⟩
          rw [hkk]
          by_cases hlt : kk < N
          · have hkr : k < r.length := by have := HN2.out; omega
            obtain ⟨v, hv⟩ : ∃ v, r[k] = v := ⟨_, rfl⟩
            have c1 : wr.cell? ⟨g, o + kk, none⟩ = some (.int .u32 (v : Int)) := by
              obtain ⟨g', o', e, _, h3, _⟩ := HLV.out.2 (k + 1) (by rw [HN.out]; omega)
              injection e with e
              injection e with e1 e2
              subst e1 e2
              rw [← hkk, h3, List.getElem_cons_succ, hv]
            have HV := Lib.hid hv
            have i1 : decide ((kk : Int) < (N : Int)) = true := decide_eq_true (by omega)
            have w1 : IntKind.u32.wrap (kk : Int) = (kk : Int) := by rw [IntKind.wrap_u32]; omega
            have w2 : IntKind.u32.wrap ((a0 : Int) + (kk : Int)) = ((a0 + kk : Nat) : Int) := by rw [IntKind.wrap_u32]; omega
            have w3 : IntKind.i64.wrap ((kk : Int) + 1) = ((kk + 1 : Nat) : Int) := by rw [IntWalk.i64_in _ (by omega)]; omega
            have i2 : (kk : Int) < (N : Int) := by omega
            have i3 : (0 : Int) ≤ (kk : Int) := by omega
            have hvb : v < 4294967296 := by
              have := HRis.out.2 r[k] (List.mem_cons_of_mem _ (List.getElem_mem hkr))
              omega
            by_cases he : v = a0 + kk
            · have hKK : k < K := by
                rcases Nat.lt_or_ge k K with h | h
                · exact h
                · obtain rfl : k = K := by omega
                  exact absurd (by omega) (CS.out.2 hkr)
              have b1 : ((v : Int) == ((a0 + kk : Nat) : Int)) = true := by rw [he]; simp
              clear he hv
              go_upto_region 3 with fail
              go_quiet (fail)
              go_wp2_with fail
              go_roundw
              case rel => exact ⟨k + 1, _, by rw [hkk]; go_num, hKK, (by first | rfl | exact drewN_add _ _ _)⟩
              case measure => simp [intOf]; omega
            · have hKK : k = K := by
                rcases Nat.lt_or_ge k K with h | h
                · exfalso
                  have h1 := CS.out.1
                  have h2 : (r.take K)[k]'(by rw [List.length_take]; omega) = (List.range' (a0 + 1) K)[k]'(by rw [List.length_range']; exact h) := by simp only [h1]
                  rw [List.getElem_take, List.getElem_range'] at h2
                  omega
                · omega
              have b1 : ((v : Int) == ((a0 + kk : Nat) : Int)) = false := beq_eq_false_iff_ne.2 (by omega)
              clear he hv
              go_upto_region 3 with fail
              go_quiet (fail)
              go_wp2_with fail
              go_meet
              case rel => exact ⟨by rw [← hkk, hKK], _, (by first | rfl | exact drewN_add _ _ _)⟩
          · have i1 : decide ((kk : Int) < (N : Int)) = false := decide_eq_false (by omega)
            have hKK : k = K := by have := HN2.out; omega
            go_upto_region 3 with fail
            go_quiet (fail)
            go_wp2_with fail
            go_meet
            case rel => exact ⟨by rw [← hkk, hKK], _, (by first | rfl | exact drewN_add _ _ _)⟩
      case rest =>
        obtain ⟨rfl, q, rfl⟩ := hcut
        have hw0 := HW.out.drewN q
        have HLV0 := Lib.hid (HLV.out.below (w' := wr.drewN q) ⟨rfl, rfl, rfl, Nat.le_refl _, fun _ _ => rfl⟩)
        have c0' : (wr.drewN q).cell? ⟨g, o, none⟩ = some (.int .u32 (a0 : Int)) := c0
        generalize wr.drewN q = W0 at hw0 HLV0 c0' ⊢
        have HW0 := Lib.hid hw0
        clear c0 HW HLV hw0
        obtain ⟨n, hn⟩ : ∃ n, K + 1 = n := ⟨_, rfl⟩
        have hnN : n ≤ N := by have := HN2.out; omega
        rw [hn] at RC ⊢
        have HNK := Lib.hid hn
        -- what is left is read on
        have NX : Hid (LV w (some (if cap' = n then ⟨g, o, none⟩ else ⟨g, o + n, none⟩)) (r.drop K) ∧ (r.drop K).length = N - n ∧ Ris (r.drop K)) := Lib.hid (by
          have e : (a0 :: r).drop n = r.drop K := by rw [← hn, List.drop_succ_cons]
          have hl : (r.drop K).length = N - n := by rw [List.length_drop]; have := HN2.out; omega
          refine ⟨?_, hl, ?_⟩
          · split
            · refine ⟨by omega, fun i hi => by omega⟩
            · exact e ▸ HLVw.out.drop n
          · have hs : List.Sublist (r.drop K) (a0 :: r) := (List.drop_sublist K r).trans (List.sublist_cons_self a0 r)
            exact ⟨HRis.out.1.sublist hs, fun v hv => HRis.out.2 v (hs.subset hv)⟩)
        have hn1 : 1 ≤ n := by omega
        have s1' : (n : Int) ≤ (N : Int) := by omega
        have s2' : (0 : Int) ≤ (n : Int) := by omega
        have s3' : ¬ (N : Int) < (n : Int) := by omega
        have s4' : ¬ (cap' : Int) < (n : Int) := by omega
        have s5' : ¬ (cap' : Int) < (N : Int) := by omega
        clear hn
        by_cases hc : 0 < least ∧ least ≤ n
        · have RC2 := RC.out
          rw [if_pos hc] at RC2
          have RC3 := Lib.hid RC2
          have j1 : decide ((0 : Int) < (least : Int)) = true := decide_eq_true (by omega)
          have j2 : decide ((least : Int) ≤ (n : Int)) = true := decide_eq_true (by omega)
          clear RC RC2
          have OWN1 := Lib.hid (HW0.out.2.1.alloc (.cells #[.int .i64 (a0 : Int), .int .i64 (n : Int)] 126))
          have C1 : Hid (∀ j u, ([Value.int .i64 (a0 : Int), .int .i64 (n : Int)] : List Value)[j]? = some u → (W0.alloc (.cells #[.int .i64 (a0 : Int), .int .i64 (n : Int)] 126)).cell? ((⟨W0.heap.size, 0, none⟩ : Addr).add j) = some u) := Lib.hid (fun j u hu => by
            rw [Addr.add_lit, cell_of_row _ _ _ _ _ _ (heap_alloc_new _ _), Nat.zero_add]; simpa using hu)
          have C3 : Hid (L.length + 1 ≤ maxLen) := Lib.hid (by simp only [maxLen]; omega)
          have C4 : Hid ((L.length + 1) * 16 ≤ 140737488355328) := Lib.hid (by omega)
          have C5 : Hid (w.heap.size ≤ (W0.alloc (.cells #[.int .i64 (a0 : Int), .int .i64 (n : Int)] 126)).heap.size) := Lib.hid (by have := HW0.out.1.size; simp; omega)
          go_wp2_with (at_builtin; refine wpList_append_at _ rfl _ _ 122 rfl w.heap.size 126 i0 _ 2 16 Tryd.underlying122 hi hz0 hz1 hz2 rfl (by decide) _ L.length _ rfl OWN1.out ⟨W0.heap.size, 0, none⟩ 1 1 [.int .i64 (a0 : Int), .int .i64 (n : Int)] rfl rfl C1.out (pr_one _ _) C3.out C4.out C5.out (by decide) ?_)
          intro v' w' own' hg hw
          have HA : Hid (RW2 w (L ++ [(a0, n)]) v' R (.slice s2 R.length d2) w') := Lib.hid ((HW0.out.next ((Below.refl _ _).alloc (Nat.le_refl _) _)).add1 (a0, n) own' hg (by simpa using hw))
          obtain ⟨av, dv, rfl⟩ := own_shape own'
          clear own' hg hw C1 C3 C4 C5 OWN1
          go_wp2_with fail
          go_roundw
          case rel => exact ⟨_, r.drop K, cap' - n, L ++ [(a0, n)], R, by rw [NX.out.2.1]; split <;> rfl, by rw [NX.out.2.1]; omega, by omega, NX.out.1, NX.out.2.2, by rw [HQ2.out, RC3.out, List.append_assoc]; rfl, by rw [NX.out.2.1, List.length_append, List.length_singleton]; omega, HA.out⟩
          case measure => simp [sliceLen]; omega
        · have RC2 := RC.out
          rw [if_neg hc] at RC2
          have RC3 := Lib.hid RC2
          have TK : Hid ((u32V ((a0 :: r).take n)).length = n * 1) := Lib.hid (by rw [u32V, List.length_map, List.length_take, HN.out]; omega)
          have TL : Hid (((a0 :: r).take n).length = n) := Lib.hid (by rw [List.length_take, HN.out]; omega)
          have TE : Hid ((a0 :: r).take n = a0 :: r.take K) := Lib.hid (by rw [← HNK.out, List.take_succ_cons])
          have C1 := Lib.hid (HLV0.out.cells n)
          have C3 : Hid (R.length + n ≤ maxLen) := Lib.hid (by simp only [maxLen]; omega)
          have C4 : Hid ((R.length + n) * 4 ≤ 140737488355328) := Lib.hid (by omega)
          have hjj : (0 < least ∧ least ≤ n) = False := eq_false hc
          clear RC RC2
          by_cases hl0 : 0 < least
          · have j1 : decide ((0 : Int) < (least : Int)) = true := decide_eq_true (by omega)
            have j2 : decide ((least : Int) ≤ (n : Int)) = false := decide_eq_false (by omega)
            have j3 : decide (least ≤ n) = false := decide_eq_false (by omega)
            have j4 : ¬ ((least : Int) ≤ (n : Int)) := by omega
            clear hc hjj
            go_wp2_with (at_builtin; refine wpList_append_at _ rfl _ _ 29 rfl w.heap.size 60 j0 _ 1 4 Tryd.underlying29 hj hj0 hj1 hj2 rfl (by decide) _ R.length _ rfl HW0.out.2.2.1 ⟨g, o, none⟩ n cap' (u32V ((a0 :: r).take n)) rfl TK.out C1.out (u32_one _) C3.out C4.out HW0.out.1.size (by omega) ?_)
            intro v' w' own' hg hw
            have HA : Hid (RW2 w L (.slice s1 L.length d1) (R ++ (a0 :: r.take K)) v' w') := Lib.hid (by rw [← TE.out]; exact HW0.out.add2 ((a0 :: r).take n) n TL.out own' hg hw)
            obtain ⟨av, dv, rfl⟩ := own_shape own'
            clear own' hg hw C1 C3 C4 TK
            go_wp2_with fail
            go_roundw
            case rel => exact ⟨_, r.drop K, cap' - n, L, R ++ (a0 :: r.take K), by rw [NX.out.2.1]; split <;> rfl, by rw [NX.out.2.1]; omega, by omega, NX.out.1, NX.out.2.2, by rw [HQ2.out, RC3.out, List.append_assoc], by rw [NX.out.2.1, List.length_append, ← TE.out, TL.out]; omega, HA.out⟩
            case measure => simp [sliceLen]; omega
          · have j1 : decide ((0 : Int) < (least : Int)) = false := decide_eq_false (by omega)
            clear hc hjj
            go_wp2_with (at_builtin; refine wpList_append_at _ rfl _ _ 29 rfl w.heap.size 60 j0 _ 1 4 Tryd.underlying29 hj hj0 hj1 hj2 rfl (by decide) _ R.length _ rfl HW0.out.2.2.1 ⟨g, o, none⟩ n cap' (u32V ((a0 :: r).take n)) rfl TK.out C1.out (u32_one _) C3.out C4.out HW0.out.1.size (by omega) ?_)
            intro v' w' own' hg hw
            have HA : Hid (RW2 w L (.slice s1 L.length d1) (R ++ (a0 :: r.take K)) v' w') := Lib.hid (by rw [← TE.out]; exact HW0.out.add2 ((a0 :: r).take n) n TL.out own' hg hw)
            obtain ⟨av, dv, rfl⟩ := own_shape own'
            clear own' hg hw C1 C3 C4 TK
            go_wp2_with fail
            go_roundw
            case rel => exact ⟨_, r.drop K, cap' - n, L, R ++ (a0 :: r.take K), by rw [NX.out.2.1]; split <;> rfl, by rw [NX.out.2.1]; omega, by omega, NX.out.1, NX.out.2.2, by rw [HQ2.out, RC3.out, List.append_assoc], by rw [NX.out.2.1, List.length_append, ← TE.out, TL.out]; omega, HA.out⟩
            case measure => simp [sliceLen]; omega
end Go.Proofs.YtflnpcgnenhogaaDoor.ls
namespace Go.Proofs.YtflnpcgnenhogaaDoor.ls
open Go.RowKit Go.Proofs.YtflnpcgnenhogaaDoor.own Go.Proofs.YtflnpcgnenhogaaDoor.bit

/-! ### two lists at once -/
def meetF (s : List Nat × (List Nat × Nat)) (v : Nat) (own other : Bool) : List Nat × (List Nat × Nat) := if other then (s.1, rst s.2 own) else (s.1 ++ [v], s.2)
def eachF : List Nat → List Nat → List Nat × (List Nat × Nat) → List Nat × (List Nat × Nat)
  | [], [], s => s
  | a :: r, [], s => eachF r [] (meetF s a true false)
  | [], b :: t, s => eachF [] t (meetF s b false true)
  | a :: r, b :: t, s => if a < b then eachF r (b :: t) (meetF s a true false) else if b < a then eachF (a :: r) t (meetF s b false true) else eachF r t (meetF s a true true)
termination_by a b => a.length + b.length
theorem isIn_no {l : List Nat} {v : Nat} (h : v ∉ l) : isIn l v = false := by unfold isIn; exact decide_eq_false h
theorem isIn_cons {a : Nat} {r : List Nat} {v : Nat} (h : v ≠ a) : isIn (a :: r) v = isIn r v := by unfold isIn; exact decide_eq_decide.2 ⟨fun h1 => by rcases List.mem_cons.1 h1 with h2 | h2; exact absurd h2 h; exact h2, fun h1 => List.mem_cons_of_mem _ h1⟩
theorem foldl_same {f g : Nat → Bool} : ∀ (l : List Nat) (q : List Nat × Nat), (∀ v ∈ l, f v = g v) → l.foldl (fun q v => rst q (f v)) q = l.foldl (fun q v => rst q (g v)) q
  | [], _, _ => rfl
  | v :: l, q, h => by
    simp only [List.foldl_cons]
    rw [h v (List.mem_cons_self ..), foldl_same l _ (fun u hu => h u (List.mem_cons_of_mem _ hu))]
theorem leftOf_nil (a : List Nat) : leftOf a [] = a := by
  unfold leftOf
  rw [List.filter_eq_self]
  intro v _
  simp [isIn]
theorem leftOf_cons (a : Nat) (r b : List Nat) : leftOf (a :: r) b = if isIn b a then leftOf r b else a :: leftOf r b := by
  unfold leftOf
  rw [List.filter_cons]
  cases isIn b a <;> rfl
theorem filter_same {f g : Nat → Bool} {l : List Nat} (h : ∀ v ∈ l, f v = g v) : l.filter f = l.filter g := List.filter_congr h
theorem eachF_eq (a b : List Nat) (s : List Nat × (List Nat × Nat)) (ha : a.Pairwise (· < ·)) (hb : b.Pairwise (· < ·)) : eachF a b s = (s.1 ++ leftOf a b, b.foldl (fun q v => rst q (isIn a v)) s.2) := by
  induction hn : a.length + b.length using Nat.strongRecOn generalizing a b s with
  | ind n ih =>
    match a, b, ha, hb, hn with
    | [], [], _, _, _ => rw [eachF]; simp [leftOf]
    | a :: r, [], ha, hb, hn =>
      obtain ⟨p1, p2⟩ := List.pairwise_cons.1 ha
      rw [eachF, ih (r.length + ([] : List Nat).length) (by simp at hn ⊢; omega) r [] _ p2 hb rfl, leftOf_nil, leftOf_nil]
      simp [meetF]
    | [], b :: t, ha, hb, hn =>
      obtain ⟨p1, p2⟩ := List.pairwise_cons.1 hb
      rw [eachF, ih (([] : List Nat).length + t.length) (by simp at hn ⊢; omega) [] t _ ha p2 rfl]
      simp only [meetF, if_true, List.foldl_cons]
      rw [isIn_no (by simp : b ∉ ([] : List Nat))]
      rfl
    | a :: r, b :: t, ha, hb, hn =>
      obtain ⟨p1, p2⟩ := List.pairwise_cons.1 ha
      obtain ⟨p3, p4⟩ := List.pairwise_cons.1 hb
      simp only [List.length_cons] at hn
      rw [eachF]
      by_cases h1 : a < b
      · rw [if_pos h1, ih (r.length + (b :: t).length) (by simp; omega) r (b :: t) _ p2 hb rfl]
        have e1 : isIn (b :: t) a = false := isIn_no (fun h => by
          rcases List.mem_cons.1 h with h | h
          · omega
          · have := p3 a h; omega)
        rw [leftOf_cons a r, e1]
        have e2 : (b :: t).foldl (fun q v => rst q (isIn r v)) s.2 = (b :: t).foldl (fun q v => rst q (isIn (a :: r) v)) s.2 := foldl_same _ _ (fun v hv => by
          refine (isIn_cons ?_).symm
          rcases List.mem_cons.1 hv with h | h
          · omega
          · have := p3 v h; omega)
        simp only [meetF, Bool.false_eq_true, if_false]
        rw [e2, List.append_assoc]
        rfl
      · rw [if_neg h1]
        by_cases h2 : b < a
        · rw [if_pos h2, ih ((a :: r).length + t.length) (by simp; omega) (a :: r) t _ ha p4 rfl]
          have e1 : isIn (a :: r) b = false := isIn_no (fun h => by
            rcases List.mem_cons.1 h with h | h
            · omega
            · have := p1 b h; omega)
          have e2 : leftOf (a :: r) (b :: t) = leftOf (a :: r) t := filter_same (fun v hv => by
            rw [isIn_cons]
            rcases List.mem_cons.1 hv with h | h
            · omega
            · have := p1 v h; omega)
          simp only [meetF, if_true, List.foldl_cons]
          rw [e1, e2]
        · obtain rfl : a = b := by omega
          rw [if_neg h2, ih (r.length + t.length) (by omega) r t _ p2 p4 rfl]
          have e1 : isIn (a :: r) a = true := isIn_mem.2 (List.mem_cons_self ..)
          have e2 : leftOf (a :: r) (a :: t) = leftOf r t := by
            rw [leftOf_cons, isIn_mem.2 (List.mem_cons_self ..), if_pos rfl]
            exact filter_same (fun v hv => by
              rw [isIn_cons]
              have := p1 v hv; omega)
          have e3 : t.foldl (fun q v => rst q (isIn r v)) (rst s.2 true) = t.foldl (fun q v => rst q (isIn (a :: r) v)) (rst s.2 true) := foldl_same _ _ (fun v hv => by
            refine (isIn_cons ?_).symm
            have := p3 v hv; omega)
          simp only [meetF, if_true, List.foldl_cons]
          rw [e1, e2, e3]
theorem eachF_runs {succ ref : List Nat} (h1 : Ris succ) (h2 : Ris ref) : eachF succ ref ([], ([], 0)) = (leftOf succ ref, runs succ ref) := by
  rw [eachF_eq _ _ _ h1.1 h2.1]
  rfl

/-! ### Zig -/
theorem zig_bits (z : Int) (h1 : -4611686018427387904 ≤ z) (h2 : z ≤ 4611686018427387903) : bits .xor .u64 (IntKind.u64.wrap (IntKind.u64.wrap z * 2)) (IntKind.u64.wrap (z / 9223372036854775808)) = ((zig z : Nat) : Int) := by
  unfold zig
  by_cases h0 : 0 ≤ z
  · rw [if_pos h0]
    have e1 : IntKind.u64.wrap (IntKind.u64.wrap z * 2) = (((2 * z).toNat : Nat) : Int) := by rw [IntKind.wrap_u64, IntKind.wrap_u64]; omega
    have e2 : IntKind.u64.wrap (z / 9223372036854775808) = ((0 : Nat) : Int) := by rw [IntKind.wrap_u64]; omega
    rw [e1, e2, bits_xor_u64_nat _ _ (by omega) (by decide), Nat.xor_zero]
  · rw [if_neg h0]
    obtain ⟨n, hn⟩ : ∃ n : Nat, z = -((n : Int) + 1) := ⟨(-(z + 1)).toNat, by omega⟩
    subst hn
    have e1 : IntKind.u64.wrap (IntKind.u64.wrap (-((n : Int) + 1)) * 2) = ((2 ^ 64 - 1 - (2 * n + 1) : Nat) : Int) := by rw [IntKind.wrap_u64, IntKind.wrap_u64, show (2 : Nat) ^ 64 = 18446744073709551616 from rfl]; omega
    have e2 : IntKind.u64.wrap (-((n : Int) + 1) / 9223372036854775808) = ((2 ^ 64 - 1 : Nat) : Int) := by rw [IntKind.wrap_u64, show (2 : Nat) ^ 64 = 18446744073709551616 from rfl]; omega
    have h64 : (2 : Nat) ^ 64 = 18446744073709551616 := rfl
    rw [e1, e2, bits_xor_u64_nat _ _ (by omega) (by omega), Nat.xor_comm, Lib.xor_ones64 _ (by omega)]
    omega
theorem Zig_any (z : Int) (h1 : -4611686018427387904 ≤ z) (h2 : z ≤ 4611686018427387903) (w : World) : Calls Tryd.prog 58 #[.int .i64 z] w fun e w' => e = .returned (.int .u64 ((zig z : Nat) : Int)) ∧ w = w' := by
  have ZB := Lib.hid (zig_bits z h1 h2)
  clear h1 h2
  have zb := ZB.out
  go_enter Tryd.func58, Tryd.ntmps58
  go_wp2_with fail
  go_ret
  exact ⟨rfl, rfl⟩
end Go.Proofs.YtflnpcgnenhogaaDoor.ls
namespace Go.Proofs.YtflnpcgnenhogaaDoor.ls
open Go.RowKit Go.Proofs.YtflnpcgnenhogaaDoor.own Go.Proofs.YtflnpcgnenhogaaDoor.bit

theorem Tryd.infoNumber : (Tryd.prog.info? 87).map (fun i => (i.zero, i.size, i.bytes)) = some (some (.agg #[.int .u8 0, .int .u64 0, .int .u64 0]), 3, 24) := by kernel_rfl
theorem Tryd.infoInt : (Tryd.prog.info? 3).map (fun i => (i.zero, i.size, i.bytes)) = some (some (.int .i64 0), 1, 8) := by kernel_rfl
def cdC : Cd → List Value
  | .una => [.int .u8 0, .int .u64 0]
  | .gam => [.int .u8 1, .int .u64 0]
  | .zet k => [.int .u8 3, .int .u64 (k : Int)]
def nmC (q : Cd × Nat) : List Value := cdC q.1 ++ [.int .u64 (q.2 : Int)]
def nmV (l : List (Cd × Nat)) : List Value := l.flatMap nmC
theorem nmV_append (a b : List (Cd × Nat)) : nmV (a ++ b) = nmV a ++ nmV b := List.flatMap_append ..
theorem cdC_shape (c : Cd) : ∃ kd kk, cdC c = [.int .u8 kd, .int .u64 kk] ∧ cdV c = .agg #[.int .u8 kd, .int .u64 kk] := by cases c <;> exact ⟨_, _, rfl, rfl⟩

/-- a variable that holds a row of its own; both bear the colour c -/
def VR (x : Nat → Nat) (c : Nat) (e T : TypeId) (size : Nat) (w : World) (vb n : Nat) (xs : List Value) : Prop :=
  ∃ v, w.heap[vb]? = some (.cells #[v] T (0, 0)) ∧ x vb = c ∧ w.ownsRow 0 e size v n xs ∧ ∀ g, v.ownBlock = some g → x g = c ∧ g ≠ vb
theorem VR.frame {x x' : Nat → Nat} {C : Nat → Prop} {c : Nat} {e T : TypeId} {size : Nat} {w w' : World} {vb n : Nat} {xs : List Value} (h : VR x c e T size w vb n xs) (hf : Fr x x' C w w') (hC : ¬ C c) : VR x' c e T size w' vb n xs := by
  obtain ⟨v, h0, hx, ho, hg⟩ := h
  have hlt := lt_of_block h0
  refine ⟨v, (hf.old vb hlt (by rw [hx]; exact hC)).trans h0, by rw [hf.col vb hlt]; exact hx, ⟨ho.1, ?_⟩, fun g e => ?_⟩
  · rcases ho.2 with h2 | ⟨g, cap, cur, hv, hb, hcell, r⟩
    · exact .inl h2
    · have he : v.ownBlock = some g := by rw [hv]; rfl
      exact .inr ⟨g, cap, cur, hv, hb, (hf.old g (lt_of_block hcell) (by rw [(hg g he).1]; exact hC)).trans hcell, r⟩
  · have := ho.lt g e
    exact ⟨by rw [hf.col g this.2]; exact (hg g e).1, (hg g e).2⟩
/-- the variable behind an append to its row -/
theorem VR.grown {x : Nat → Nat} {c : Nat} {w w1 w2 : World} {vb n' : Nat} {vw v2 : Value} {ys : List Value} {T e : TypeId} {size : Nat} (g0 : w.heap[vb]? = some (.cells #[vw] T (0, 0))) (gx : x vb = c)
    (gg : ∀ g, vw.ownBlock = some g → x g = c ∧ g ≠ vb) (hb1 : Below w.heap.size w w1) (hown : w2.ownsRow 0 e size v2 n' ys) (hg : w1.grownBy w2 vw.ownBlock) (hw : v2.ownBlock = vw.ownBlock ∨ v2.ownBlock = some w1.heap.size) :
    w2.heap[vb]? = some (.cells #[vw] T (0, 0)) ∧ ∃ x2, Fr x x2 (fun e => e = c) w (w2.setCell ⟨vb, 0, none⟩ v2) ∧ VR x2 c e T size (w2.setCell ⟨vb, 0, none⟩ v2) vb n' ys := by
  have hlt := lt_of_block g0
  have k0 : Keeps w w1 (fun b => vw.ownBlock = some b) := ⟨hb1.os, hb1.tape, hb1.output, hb1.size, fun b hb _ => hb1.block b hb⟩
  have kp : Keeps w w2 (fun b => vw.ownBlock = some b) := k0.grown hg (fun k hk => .inl hk)
  have kq : Keeps w (w2.setCell ⟨vb, 0, none⟩ v2) (fun b => vw.ownBlock = some b ∨ b = vb) :=
    Keeps.setCell (S := fun b => vw.ownBlock = some b ∨ b = vb) ⟨kp.os, kp.tape, kp.output, kp.size, fun b hb hS => kp.block b hb (fun h => hS (.inl h))⟩ (.inl (.inr rfl)) v2
  have hwb : w2.heap[vb]? = some (.cells #[vw] T (0, 0)) := (kp.block vb hlt (fun h => (gg vb h).2 rfl)).trans g0
  have hz := hb1.size
  have hne : ∀ g, v2.ownBlock = some g → g ≠ vb := fun g hg2 => by
    rcases hw with e | e
    · exact (gg g (e ▸ hg2)).2
    · rw [e] at hg2; injection hg2 with hg2; omega
  refine ⟨hwb, paint x w.heap.size c, kq.fr rfl (fun b _ hS => ?_), v2, ?_, by rw [paint_old hlt]; exact gx, ⟨hown.1, ?_⟩, fun g hg2 => ⟨?_, hne g hg2⟩⟩
  · rcases hS with h | h
    · exact (gg b h).1
    · rw [h]; exact gx
  · rw [heap_setCell_same w2 vb 0 _ _ _ hwb]
    rfl
  · rcases hown.2 with h2 | ⟨g, cap, cur, hv, hb, hcell, r⟩
    · exact .inl h2
    · exact .inr ⟨g, cap, cur, hv, hb, (Below.heap_setCell w2 _ _ g (hne g (by rw [hv]; rfl))).trans hcell, r⟩
  · rcases hw with e | e
    · have h2 := e ▸ hg2
      have h3 := gg g h2
      by_cases hgl : g < w.heap.size
      · rw [paint_old hgl]; exact h3.1
      · rw [paint_new (by omega)]
    · rw [e] at hg2; injection hg2 with hg2
      rw [paint_new (by omega)]

set_option maxRecDepth 100000 in
set_option maxHeartbeats 1600000 in
theorem put_any (x : Nat → Nat) (c : Nat) (w : World) (lb : Nat) (l : List (Cd × Nat)) (k : Cd) (v : Nat) (hv : v < 9223372036854775808) (hl : l.length ≤ 1000000000) (h : VR x c 87 82 3 w lb l.length (nmV l)) :
    Calls Tryd.prog 54 #[cdV k, .int .i64 (v : Int), .pointer (some ⟨lb, 0, none⟩)] w fun e w' => e = .returned (.tuple #[]) ∧ ∃ x', Fr x x' (fun e => e = c) w w' ∧ VR x' c 87 82 3 w' lb (l.length + 1) (nmV (l ++ [(k, v)])) := by
  obtain ⟨i0, hi, hz0, hz1, hz2⟩ := info_parts Tryd.infoNumber
  obtain ⟨vw, g0, gx, go, gg⟩ := h
  obtain ⟨kd, kk, hcc, hcv⟩ := cdC_shape k
  have NM : Hid (nmV [(k, v)] = [.int .u8 kd, .int .u64 kk, .int .u64 (v : Int)]) := Lib.hid (by show nmC (k, v) ++ [] = _; unfold nmC; rw [hcc]; rfl)
  rw [hcv]
  have G0 := Lib.hid g0
  have GG := Lib.hid (And.intro gx gg)
  have c0 : w.cell? ⟨lb, 0, none⟩ = some vw := by rw [cell_of_row w lb _ _ _ _ g0]; rfl
  obtain ⟨s1, d1, hvw⟩ := own_shape go
  have hlb := lt_of_block g0
  have GO := Lib.hid go
  clear g0 gx go gg hcc hcv
  go_enter Tryd.func54, Tryd.ntmps54
  go_upto_region 1 with fail
  have r1 := heap_alloc_new w (.cells #[.int .u8 kd, .int .u64 kk] 85)
  have kb : Below w.heap.size w (w.alloc (.cells #[.int .u8 kd, .int .u64 kk] 85)) := (by repeat (first | exact Below.refl _ _ | refine below_drewN ?_ _ | refine Below.setCell ?_ (by simp; try omega) _ | refine Below.alloc ?_ (by simp; try omega) _))
  have d0 : (w.alloc (.cells #[.int .u8 kd, .int .u64 kk] 85)).cell? ⟨lb, 0, none⟩ = some vw := (kb.cell (by exact hlb)).trans c0
  have d1' : (w.alloc (.cells #[.int .u8 kd, .int .u64 kk] 85)).cell? ⟨w.heap.size, 0, none⟩ = some (.int .u8 kd) := by rw [cell_of_row _ _ _ _ _ _ r1]; rfl
  have d2' : (w.alloc (.cells #[.int .u8 kd, .int .u64 kk] 85)).cell? ⟨w.heap.size, 1, none⟩ = some (.int .u64 kk) := by rw [cell_of_row _ _ _ _ _ _ r1]; rfl
  have KB := Lib.hid kb
  have OW := Lib.hid (own_below GO.out kb)
  generalize w.alloc (.cells #[.int .u8 kd, .int .u64 kk] 85) = w1 at d0 d1' d2' KB OW ⊢
  clear c0 kb r1
  have C1 : Hid (∀ j u, ([Value.int .u8 kd, .int .u64 kk, .int .u64 (v : Int)] : List Value)[j]? = some u → (w1.alloc (.cells #[.int .u8 kd, .int .u64 kk, .int .u64 (v : Int)] 87)).cell? ((⟨w1.heap.size, 0, none⟩ : Addr).add j) = some u) := Lib.hid (fun j u hu => by
    rw [Addr.add_lit, cell_of_row _ _ _ _ _ _ (heap_alloc_new _ _), Nat.zero_add]; simpa using hu)
  have C2 : Hid (∀ u ∈ ([Value.int .u8 kd, .int .u64 kk, .int .u64 (v : Int)] : List Value), u.oneCell' = true) := Lib.hid (fun u hu => by simp at hu; rcases hu with rfl | rfl | rfl <;> rfl)
  have C3 : Hid (l.length + 1 ≤ maxLen) := Lib.hid (by simp only [maxLen]; omega)
  have C4 : Hid ((l.length + 1) * 24 ≤ 140737488355328) := Lib.hid (by omega)
  have OW2 := Lib.hid (OW.out.alloc (.cells #[.int .u8 kd, .int .u64 kk, .int .u64 (v : Int)] 87))
  subst hvw
  go_wp2_with (at_builtin; refine wpList_append_at _ rfl _ _ 82 rfl 0 87 i0 _ 3 24 Tryd.underlying82 hi hz0 hz1 hz2 rfl (by decide) _ l.length _ rfl OW2.out ⟨w1.heap.size, 0, none⟩ 1 1 [.int .u8 kd, .int .u64 kk, .int .u64 (v : Int)] rfl rfl C1.out C2.out C3.out C4.out (Nat.zero_le _) (by decide) ?_)
  intro v2 w2 hown hg hw
  rw [← NM.out, ← nmV_append] at hown
  obtain ⟨r2, R⟩ := VR.grown (T := 82) G0.out GG.out.1 GG.out.2 (KB.out.alloc KB.out.size _) hown hg (by simpa using hw)
  have R := Lib.hid R
  have c2 : w2.cell? ⟨lb, 0, none⟩ = some (.slice s1 l.length d1) := by rw [cell_of_row w2 lb _ _ _ _ r2]; rfl
  have f2 : ∀ j, w2.frozen? ⟨lb, j, none⟩ = false := fun j => frozen_of_row w2 lb j _ _ r2
  clear r2
  obtain ⟨a2, k2, rfl⟩ := own_shape hown
  clear hown hg hw
  go_wp2_with fail
  go_end0
  exact ⟨rfl, R.out⟩
end Go.Proofs.YtflnpcgnenhogaaDoor.ls
namespace Go.Proofs.YtflnpcgnenhogaaDoor.ls
open Go.RowKit Go.Proofs.YtflnpcgnenhogaaDoor.own Go.Proofs.YtflnpcgnenhogaaDoor.bit

def intV (l : List Nat) : List Value := l.map fun (n : Nat) => Value.int .i64 (n : Int)
theorem intV_append (a b : List Nat) : intV (a ++ b) = intV a ++ intV b := List.map_append ..
theorem intV_set (l : List Nat) (j v : Nat) : (intV l).set j (.int .i64 (v : Int)) = intV (l.set j v) := by unfold intV; rw [List.map_set]
theorem and1 (n : Nat) (h : n < 9223372036854775808) : bits .and .i64 (n : Int) 1 = ((n % 2 : Nat) : Int) := by
  have h1 := (bits_nat .i64 63 (by decide) wraps_i64_63 n 1 (by omega) (by decide)).1
  rw [show n &&& 1 = n % 2 from Nat.and_two_pow_sub_one_eq_mod n 1] at h1
  exact h1
/-- a cell of the row is written -/
theorem VR.stored {x : Nat → Nat} {c : Nat} {e T : TypeId} {w : World} {vb n : Nat} {xs : List Value} (h : VR x c e T 1 w vb n xs) (j : Nat) (hj : j < n) (u : Value) :
    ∃ g cap, w.heap[vb]? = some (.cells #[.slice (some ⟨g, 0, none⟩) n cap] T (0, 0)) ∧ w.cell? ⟨g, j, none⟩ = xs[j]? ∧ (∀ i, w.frozen? ⟨g, i, none⟩ = false) ∧ Fr x x (fun e => e = c) w (w.setCell ⟨g, j, none⟩ u) ∧ VR x c e T 1 (w.setCell ⟨g, j, none⟩ u) vb n (xs.set j u) := by
  obtain ⟨v, h0, hx, ho, hg⟩ := h
  rcases ho.2 with ⟨_, h2⟩ | ⟨g, cap, cur, rfl, hb, hcell, r⟩
  · omega
  · have hgg := hg g rfl
    have st := ho.stored j u
    refine ⟨g, cap, h0, ho.cellAt j (by omega), fun i => ho.frozenAt i, Fr.same rfl rfl rfl (by simp) (fun b _ hd => Below.heap_setCell w ⟨g, j, none⟩ u b (fun e => hd (by rw [e]; exact hgg.1))), _, (Below.heap_setCell w ⟨g, j, none⟩ u vb (fun e => hgg.2 e.symm)).trans h0, hx, st.1, hg⟩

/-- what the two lists' closure holds -/
def MSt (x : Nat → Nat) (cf cr : Nat) (w : World) (fb rb : Nat) (s : List Nat × (List Nat × Nat)) : Prop :=
  VR x cf 60 29 1 w fb s.1.length (u32V s.1) ∧ VR x cr 3 50 1 w rb (s.2.1.length + 1) (intV (s.2.1 ++ [s.2.2]))
/-- the last run is one longer -/
def incR (x : Nat → Nat) (cr : Nat) (w : World) (rb : Nat) (I : List Nat) (n : Nat) : Prop := VR x cr 3 50 1 w rb (I.length + 1) (intV (I ++ [n]))
theorem incR.inc {x : Nat → Nat} {cr : Nat} {w : World} {rb : Nat} {I : List Nat} {n : Nat} (h : incR x cr w rb I n) :
    ∃ g cap, w.heap[rb]? = some (.cells #[.slice (some ⟨g, 0, none⟩) (I.length + 1) cap] 50 (0, 0)) ∧ w.cell? ⟨g, I.length, none⟩ = some (.int .i64 (n : Int)) ∧ (∀ i, w.frozen? ⟨g, i, none⟩ = false) ∧
      Fr x x (fun e => e = cr) w (w.setCell ⟨g, I.length, none⟩ (.int .i64 ((n + 1 : Nat) : Int))) ∧ incR x cr (w.setCell ⟨g, I.length, none⟩ (.int .i64 ((n + 1 : Nat) : Int))) rb I (n + 1) := by
  obtain ⟨g, cap, h1, h2, h3, h4, h5⟩ := VR.stored h I.length (Nat.lt_succ_self _) (.int .i64 ((n + 1 : Nat) : Int))
  refine ⟨g, cap, h1, ?_, h3, h4, ?_⟩
  · rw [h2]
    unfold intV
    simp
  · rw [intV_set] at h5
    have e : (I ++ [n]).set I.length (n + 1) = I ++ [n + 1] := by rw [List.set_append]; simp
    rw [e] at h5
    exact h5

set_option maxRecDepth 100000 in
set_option maxHeartbeats 3200000 in
theorem meet_any (x : Nat → Nat) (cf cr : Nat) (hfr : cf ≠ cr) (w : World) (fb rb : Nat) (s : List Nat × (List Nat × Nat)) (v : Nat) (own other : Bool) (hf : s.1.length ≤ 1000000) (hi : s.2.1.length ≤ 1000000) (hn : s.2.2 ≤ 1000000) (h : MSt x cf cr w fb rb s) :
    Calls Tryd.prog 56 #[.int .u32 (v : Int), .bool own, .bool other, .pointer (some ⟨fb, 0, none⟩), .pointer (some ⟨rb, 0, none⟩)] w fun e w' => e = .returned (.tuple #[]) ∧ ∃ x', Fr x x' (fun e => e = cf ∨ e = cr) w w' ∧ MSt x' cf cr w' fb rb (meetF s v own other) := by
  obtain ⟨F, I, n⟩ := s
  obtain ⟨hF, hR⟩ := h
  simp only at hF hR hf hi hn
  cases other
  · -- an element of the first alone
    obtain ⟨j0, hj, hj0, hj1, hj2⟩ := info_parts Tryd.infoU32
    have HR := Lib.hid hR
    obtain ⟨vw, g0, gx, go, gg⟩ := hF
    have G0 := Lib.hid g0
    have GG := Lib.hid (And.intro gx gg)
    have c0 : w.cell? ⟨fb, 0, none⟩ = some vw := by rw [cell_of_row w fb _ _ _ _ g0]; rfl
    obtain ⟨s1, d1, hvw⟩ := own_shape go
    have OW2 := Lib.hid (go.alloc (.cells #[.int .u32 (v : Int)] 60))
    have C1 : Hid (∀ j u, ([Value.int .u32 (v : Int)] : List Value)[j]? = some u → (w.alloc (.cells #[.int .u32 (v : Int)] 60)).cell? ((⟨w.heap.size, 0, none⟩ : Addr).add j) = some u) := Lib.hid (fun j u hu => by
      rw [Addr.add_lit, cell_of_row _ _ _ _ _ _ (heap_alloc_new _ _), Nat.zero_add]; simpa using hu)
    have C3 : Hid (F.length + 1 ≤ maxLen) := Lib.hid (by simp only [maxLen]; omega)
    have C4 : Hid ((F.length + 1) * 4 ≤ 140737488355328) := Lib.hid (by omega)
    clear g0 gx go gg hR
    subst hvw
    go_enter Tryd.func56, Tryd.ntmps56
    go_wp2_with (at_builtin; refine wpList_append_at _ rfl _ _ 29 rfl 0 60 j0 _ 1 4 Tryd.underlying29 hj hj0 hj1 hj2 rfl (by decide) _ F.length _ rfl OW2.out ⟨w.heap.size, 0, none⟩ 1 1 [.int .u32 (v : Int)] rfl rfl C1.out (u32_one [v]) C3.out C4.out (Nat.zero_le _) (by decide) ?_)
    intro v2 w2 hown hg hw
    obtain ⟨r2, R⟩ := VR.grown (T := 29) G0.out GG.out.1 GG.out.2 ((Below.refl _ _).alloc (Nat.le_refl _) _) hown hg (by simpa using hw)
    have R := Lib.hid R
    have c2 : w2.cell? ⟨fb, 0, none⟩ = some (.slice s1 F.length d1) := by rw [cell_of_row w2 fb _ _ _ _ r2]; rfl
    have f2 : ∀ j, w2.frozen? ⟨fb, j, none⟩ = false := fun j => frozen_of_row w2 fb j _ _ r2
    obtain ⟨a2, k2, rfl⟩ := own_shape hown
    clear r2 hown hg hw C1 C3 C4 OW2
    go_wp2_with fail
    refine bodyPost_ret (results_none rfl _ _ _) rfl ?_
    obtain ⟨x2, f3, v3⟩ := R.out
    refine ⟨rfl, x2, f3.mono (fun c hc => .inl hc), ?_, HR.out.frame f3 (fun e => hfr e.symm)⟩
    show VR x2 cf _ _ 1 _ fb (F ++ [v]).length (u32V (F ++ [v]))
    rw [u32V_append, List.length_append]
    exact v3
  · have HF := Lib.hid hF
    obtain ⟨pb, hpb⟩ : ∃ pb, ((I.length + 1) % 2 == 1) = pb := ⟨_, rfl⟩
    have RS : Hid (rst (I, n) own = if own != pb then (I ++ [n], 1) else (I, n + 1)) := Lib.hid (by unfold rst; simp only; rw [hpb])
    have A1 := and1 (I.length + 1) (by omega)
    have A2 : ((((I.length + 1) % 2 : Nat) : Int) == 1) = pb := by
      rw [← hpb]
      rcases Nat.mod_two_eq_zero_or_one (I.length + 1) with h | h <;> rw [h] <;> rfl
    have hRi : incR x cr w rb I n := hR
    obtain ⟨m, hm⟩ : ∃ m, I.length + 1 = m := ⟨_, rfl⟩
    have hm2 : m ≤ 1000001 := by omega
    obtain ⟨g, cap, h1, h2, h3, h4, h5⟩ := hRi.inc
    rw [hm] at h1 A1 A2
    obtain ⟨r2, hr2⟩ : ∃ r2, m % 2 = r2 := ⟨_, rfl⟩
    rw [hr2] at A1 A2
    have HM := Lib.hid hm
    have c0 : w.cell? ⟨rb, 0, none⟩ = some (.slice (some ⟨g, 0, none⟩) m cap) := by rw [cell_of_row w rb _ _ _ _ h1]; rfl
    have HRI := Lib.hid hR
    clear hpb hr2 hm hF hR
    by_cases hneq : (own != pb) = true
    · -- a run more
      have RS2 := RS.out
      rw [if_pos hneq] at RS2
      have RS3 := Lib.hid RS2
      have hq : (own == pb) = false := by cases own <;> cases pb <;> simp_all
      obtain ⟨j0, hj, hj0, hj1, hj2⟩ := info_parts Tryd.infoInt
      obtain ⟨vw, g0, gx, go, gg⟩ := HRI.out
      rw [HM.out] at go
      have hvw : vw = .slice (some ⟨g, 0, none⟩) m cap := by
        have e := g0.symm.trans h1
        simpa using e
      subst hvw
      have G0 := Lib.hid g0
      have GG := Lib.hid (And.intro gx gg)
      have OW2 := Lib.hid (go.alloc (.cells #[.int .i64 0] 3))
      have C1 : Hid (∀ j u, ([Value.int .i64 0] : List Value)[j]? = some u → (w.alloc (.cells #[.int .i64 0] 3)).cell? ((⟨w.heap.size, 0, none⟩ : Addr).add j) = some u) := Lib.hid (fun j u hu => by
        rw [Addr.add_lit, cell_of_row _ _ _ _ _ _ (heap_alloc_new _ _), Nat.zero_add]; simpa using hu)
      have C2 : Hid (∀ u ∈ ([Value.int .i64 0] : List Value), u.oneCell' = true) := Lib.hid (fun u hu => by simp at hu; subst hu; rfl)
      have C3 : Hid (m + 1 ≤ maxLen) := Lib.hid (by simp only [maxLen]; omega)
      have C4 : Hid ((m + 1) * 8 ≤ 140737488355328) := Lib.hid (by omega)
      clear g0 gx go gg h1 h2 h3 h4 h5 RS2 RS
      go_enter Tryd.func56, Tryd.ntmps56
      go_wp2_with (at_builtin; refine wpList_append_at _ rfl _ _ 50 rfl 0 3 j0 _ 1 8 Tryd.underlying50 hj hj0 hj1 hj2 rfl (by decide) _ m _ rfl OW2.out ⟨w.heap.size, 0, none⟩ 1 1 [.int .i64 0] rfl rfl C1.out C2.out C3.out C4.out (Nat.zero_le _) (by decide) ?_)
      intro v2 w2 hown hg hw
      obtain ⟨r3, R⟩ := VR.grown (T := 50) G0.out GG.out.1 GG.out.2 ((Below.refl _ _).alloc (Nat.le_refl _) _) hown hg (by simpa using hw)
      have R := Lib.hid R
      have c2 : w2.cell? ⟨rb, 0, none⟩ = some (.slice (some ⟨g, 0, none⟩) m cap) := by rw [cell_of_row w2 rb _ _ _ _ r3]; rfl
      have f2 : ∀ j, w2.frozen? ⟨rb, j, none⟩ = false := fun j => frozen_of_row w2 rb j _ _ r3
      obtain ⟨a2, k2, rfl⟩ := own_shape hown
      clear r3 hown hg hw C1 C2 C3 C4 OW2 c0 A1 A2
      go_upto_region 4 with fail
      generalize w2.setCell ⟨rb, 0, none⟩ (.slice a2 (m + 1) k2) = w3 at R ⊢
      clear c2 f2
      obtain ⟨x2, f3, v3⟩ := R.out
      have v4 : incR x2 cr w3 rb (I ++ [n]) 0 := by
        show VR x2 cr _ _ 1 w3 rb ((I ++ [n]).length + 1) (intV ((I ++ [n]) ++ [0]))
        rw [intV_append, List.length_append, List.length_singleton, HM.out]
        exact v3
      obtain ⟨g', cap', h1, h2, h3, h4, h5⟩ := v4.inc
      have el : (I ++ [n]).length = m := by rw [List.length_append, List.length_singleton]; exact HM.out
      rw [el] at h1 h2 h4 h5
      have e0 : w3.cell? ⟨rb, 0, none⟩ = some (.slice (some ⟨g', 0, none⟩) (m + 1) cap') := by rw [cell_of_row w3 rb _ _ _ _ h1]; rfl
      have HH := Lib.hid (And.intro h4 h5)
      have F3 := Lib.hid f3
      have HFF := Lib.hid (HF.out.frame f3 hfr |>.frame h4 hfr)
      have i1 : IntKind.i64.wrap (((m + 1 : Nat) : Int) - 1) = (m : Int) := by rw [IntWalk.i64_in _ (by omega)]; omega
      have i2 : (m : Int) < ((m + 1 : Nat) : Int) := by omega
      have i3 : (0 : Int) ≤ (m : Int) := by omega
      clear v3 v4 f3 h1 h4 h5 R
      go_wp2_with fail
      go_end0
      refine ⟨rfl, x2, (F3.out.mono (fun c hc => .inr hc)).trans (HH.out.1.mono (fun c hc => .inr hc)), ?_⟩
      show MSt x2 cf cr _ fb rb (F, rst (I, n) own)
      rw [RS3.out]
      refine ⟨HFF.out, ?_⟩
      have := HH.out.2
      unfold incR at this
      rw [el] at this
      show VR x2 cr _ _ 1 _ rb ((I ++ [n]).length + 1) (intV ((I ++ [n]) ++ [1]))
      rw [el]
      exact this
    · have hq : (own == pb) = true := by cases own <;> cases pb <;> simp_all
      have RS2 := RS.out
      rw [if_neg hneq] at RS2
      have RS3 := Lib.hid RS2
      have HH := Lib.hid (And.intro h4 h5)
      have HFF := Lib.hid (HF.out.frame h4 hfr)
      obtain ⟨k, hk⟩ : ∃ k, I.length = k := ⟨_, rfl⟩
      rw [hk] at h2 HM
      have HK := Lib.hid hk
      have i1 : IntKind.i64.wrap ((m : Int) - 1) = (k : Int) := by have := HM.out; rw [IntWalk.i64_in _ (by omega)]; omega
      have i2 : (k : Int) < (m : Int) := by have := HM.out; omega
      have i3 : (0 : Int) ≤ (k : Int) := by omega
      clear h1 h4 h5 RS RS2 hneq hk
      go_enter Tryd.func56, Tryd.ntmps56
      go_wp2_with fail
      go_end0
      refine ⟨rfl, x, ?_, ?_⟩
      · rw [← HK.out]; exact HH.out.1.mono (fun c hc => .inr hc)
      · show MSt x cf cr _ fb rb (F, rst (I, n) own)
        rw [RS3.out, ← HK.out]
        exact ⟨HFF.out, HH.out.2⟩
end Go.Proofs.YtflnpcgnenhogaaDoor.ls
namespace Go.Proofs.YtflnpcgnenhogaaDoor.ls
open Go.RowKit Go.Proofs.YtflnpcgnenhogaaDoor.own Go.Proofs.YtflnpcgnenhogaaDoor.bit

/-- a list that is only read, in a block whose colour is none of C -/
def LVx (x : Nat → Nat) (C : Nat → Prop) (w : World) (a : Option Addr) (l : List Nat) : Prop :=
  l.length ≤ 4611686018427387903 ∧ ∀ i (h : i < l.length), ∃ g o, a = some ⟨g, o, none⟩ ∧ g < w.heap.size ∧ w.cell? ⟨g, o + i, none⟩ = some (.int .u32 (l[i] : Int)) ∧ l[i] < 4294967296 ∧ ¬ C (x g)
theorem LVx.lv {x : Nat → Nat} {C : Nat → Prop} {w : World} {a : Option Addr} {l : List Nat} (h : LVx x C w a l) : LV w a l :=
  ⟨h.1, fun i hi => by obtain ⟨g, o, h1, h2, h3, h4, _⟩ := h.2 i hi; exact ⟨g, o, h1, h2, h3, h4⟩⟩
theorem LVx.frame {x x' : Nat → Nat} {C : Nat → Prop} {w w' : World} {a : Option Addr} {l : List Nat} (h : LVx x C w a l) (hf : Fr x x' C w w') : LVx x' C w' a l :=
  ⟨h.1, fun i hi => by
    obtain ⟨g, o, h1, h2, h3, h4, h5⟩ := h.2 i hi
    refine ⟨g, o, h1, Nat.lt_of_lt_of_le h2 hf.size, ?_, h4, by rw [hf.col g h2]; exact h5⟩
    rw [World.cell?_of_block (w := w) (hf.old g h2 h5)]
    exact h3⟩
/-- a slice without its first element -/
theorem LVx.tail {x : Nat → Nat} {C : Nat → Prop} {w : World} {g o a0 : Nat} {r : List Nat} (cap : Nat) (hc : r.length + 1 ≤ cap) (h : LVx x C w (some ⟨g, o, none⟩) (a0 :: r)) : LVx x C w (if cap = 1 then some ⟨g, o, none⟩ else some ⟨g, o + 1, none⟩) r := by
  refine ⟨by have := h.1; simp at this; omega, fun i hi => ?_⟩
  rw [if_neg (by omega)]
  obtain ⟨g', o', e, h2, h3, h4, h5⟩ := h.2 (i + 1) (by simp; omega)
  injection e with e; injection e with e1 e2
  subst e1 e2
  refine ⟨g, o + 1, rfl, h2, ?_, by simpa using h4, h5⟩
  rw [Nat.add_assoc, Nat.add_comm 1 i, h3]
  simp
theorem LVx.head {x : Nat → Nat} {C : Nat → Prop} {w : World} {a : Option Addr} {a0 : Nat} {r : List Nat} (h : LVx x C w a (a0 :: r)) : ∃ g o, a = some ⟨g, o, none⟩ ∧ w.cell? ⟨g, o, none⟩ = some (.int .u32 (a0 : Int)) := by
  obtain ⟨g, o, e, h2, h3, h4, h5⟩ := h.2 0 (by simp)
  exact ⟨g, o, e, by simpa using h3⟩
/-- on the way through two lists -/
structure ES (x : Nat → Nat) (cf cr : Nat) (w : World) (fb rb : Nat) (S : List Nat × (List Nat × Nat)) (a : Option Addr) (l : List Nat) (b : Option Addr) (m : List Nat) (W : World) : Prop where
  ex : ∃ x' s, Fr x x' (fun e => e = cf ∨ e = cr) w W ∧ LVx x' (fun e => e = cf ∨ e = cr) W a l ∧ LVx x' (fun e => e = cf ∨ e = cr) W b m ∧ MSt x' cf cr W fb rb s ∧ eachF l m s = S ∧ s.1.length + l.length + m.length ≤ 131072 ∧ s.2.1.length + l.length + m.length ≤ 131072 ∧ s.2.2 + l.length + m.length ≤ 131073
theorem ES.drewN {x : Nat → Nat} {cf cr : Nat} {w W : World} {fb rb : Nat} {S : List Nat × (List Nat × Nat)} {a b : Option Addr} {l m : List Nat} (h : ES x cf cr w fb rb S a l b m W) (n : Nat) : ES x cf cr w fb rb S a l b m (W.drewN n) := by
  obtain ⟨x', s, hf, h1, h2, ⟨h3, h4⟩, h5⟩ := h
  have k : Fr x' x' (fun _ => False) W (W.drewN n) := Fr.same rfl rfl rfl rfl (fun _ _ _ => rfl)
  have k2 : Fr x' x' (fun e => e = cf ∨ e = cr) W (W.drewN n) := k.mono (fun _ h => h.elim)
  exact ⟨x', s, hf.trans k2, h1.frame k2, h2.frame k2, ⟨h3.frame k id, h4.frame k id⟩, h5⟩
theorem ES.headA {x : Nat → Nat} {cf cr : Nat} {w W : World} {fb rb : Nat} {S : List Nat × (List Nat × Nat)} {a b : Option Addr} {a0 : Nat} {r m : List Nat} (h : ES x cf cr w fb rb S a (a0 :: r) b m W) : ∃ g o, a = some ⟨g, o, none⟩ ∧ W.cell? ⟨g, o, none⟩ = some (.int .u32 (a0 : Int)) := by
  obtain ⟨x', s, _, h1, _⟩ := h.ex
  exact h1.head
theorem ES.headB {x : Nat → Nat} {cf cr : Nat} {w W : World} {fb rb : Nat} {S : List Nat × (List Nat × Nat)} {a b : Option Addr} {b0 : Nat} {l t : List Nat} (h : ES x cf cr w fb rb S a l b (b0 :: t) W) : ∃ g o, b = some ⟨g, o, none⟩ ∧ W.cell? ⟨g, o, none⟩ = some (.int .u32 (b0 : Int)) := by
  obtain ⟨x', s, _, _, h2, _⟩ := h.ex
  exact h2.head
theorem meet_len (s : List Nat × (List Nat × Nat)) (v : Nat) (o p : Bool) : (meetF s v o p).1.length ≤ s.1.length + 1 ∧ (meetF s v o p).2.1.length ≤ s.2.1.length + 1 ∧ (meetF s v o p).2.2 ≤ s.2.2 + 1 := by
  unfold meetF rst
  cases p
  · simp
  · simp only [if_true]
    split <;> simp
/-- an element is met; what follows stands -/
theorem ES.meet {x : Nat → Nat} {cf cr : Nat} (hfr : cf ≠ cr) {w W : World} {fb rb : Nat} {S : List Nat × (List Nat × Nat)} {a b a' b' : Option Addr} {l m l' m' : List Nat} (h : ES x cf cr w fb rb S a l b m W) (v : Nat) (own other : Bool)
    (hE : ∀ s, eachF l m s = eachF l' m' (meetF s v own other)) (hl : l'.length + m'.length + 1 ≤ l.length + m.length) (hA : ∀ x' W', LVx x' (fun e => e = cf ∨ e = cr) W' a l → LVx x' (fun e => e = cf ∨ e = cr) W' a' l') (hB : ∀ x' W', LVx x' (fun e => e = cf ∨ e = cr) W' b m → LVx x' (fun e => e = cf ∨ e = cr) W' b' m') :
    Calls Tryd.prog 56 #[.int .u32 (v : Int), .bool own, .bool other, .pointer (some ⟨fb, 0, none⟩), .pointer (some ⟨rb, 0, none⟩)] W fun e w' => e = .returned (.tuple #[]) ∧ ES x cf cr w fb rb S a' l' b' m' w' := by
  obtain ⟨x', s, hf, h1, h2, h3, h4, h5, h6, h7⟩ := h.ex
  refine (meet_any x' cf cr hfr W fb rb s v own other (by omega) (by omega) (by omega) h3).mono ?_
  rintro e w' ⟨rfl, x2, f2, hM⟩
  have ml := meet_len s v own other
  exact ⟨rfl, x2, meetF s v own other, hf.trans f2, hA _ _ (h1.frame f2), hB _ _ (h2.frame f2), hM, by rw [← hE]; exact h4, by omega, by omega, by omega⟩
theorem each_less (a b : Nat) (r t : List Nat) (s : List Nat × (List Nat × Nat)) (h : a < b) : eachF (a :: r) (b :: t) s = eachF r (b :: t) (meetF s a true false) := by rw [eachF, if_pos h]
theorem each_more (a b : Nat) (r t : List Nat) (s : List Nat × (List Nat × Nat)) (h : b < a) : eachF (a :: r) (b :: t) s = eachF (a :: r) t (meetF s b false true) := by rw [eachF, if_neg (by omega), if_pos h]
theorem each_same (a : Nat) (r t : List Nat) (s : List Nat × (List Nat × Nat)) : eachF (a :: r) (a :: t) s = eachF r t (meetF s a true true) := by rw [eachF, if_neg (by omega), if_neg (by omega)]
theorem each_a (a : Nat) (r : List Nat) (s : List Nat × (List Nat × Nat)) : eachF (a :: r) [] s = eachF r [] (meetF s a true false) := by rw [eachF]
theorem each_b (b : Nat) (t : List Nat) (s : List Nat × (List Nat × Nat)) : eachF [] (b :: t) s = eachF [] t (meetF s b false true) := by rw [eachF]
theorem each_nil (s : List Nat × (List Nat × Nat)) : eachF [] [] s = s := by rw [eachF]

set_option maxRecDepth 100000 in
set_option maxHeartbeats 6400000 in
theorem each_any (x : Nat → Nat) (cf cr : Nat) (hfr : cf ≠ cr) (w : World) (fb rb : Nat) (a : Option Addr) (l : List Nat) (cap : Nat) (b : Option Addr) (m : List Nat) (capb : Nat) (hc : l.length ≤ cap) (hcb : m.length ≤ capb) (hl : l.length + m.length ≤ 131072)
    (hA : LVx x (fun e => e = cf ∨ e = cr) w a l) (hB : LVx x (fun e => e = cf ∨ e = cr) w b m) (h : MSt x cf cr w fb rb ([], ([], 0))) :
    Calls Tryd.prog 55 #[.slice a l.length cap, .slice b m.length capb, .func (.func 56) #[] #[.pointer (some ⟨fb, 0, none⟩), .pointer (some ⟨rb, 0, none⟩)]] w fun e w' =>
      e = .returned (.tuple #[]) ∧ ∃ x', Fr x x' (fun e => e = cf ∨ e = cr) w w' ∧ MSt x' cf cr w' fb rb (eachF l m ([], ([], 0))) := by
  obtain ⟨S, hS⟩ : ∃ S, eachF l m ([], ([], 0)) = S := ⟨_, rfl⟩
  have E0 := Lib.hid (ES.mk (S := S) ⟨x, ([], ([], 0)), Fr.refl _ _ _, hA, hB, h, hS, by simpa using hl, by simpa using hl, by simp; omega⟩)
  have HFR := Lib.hid hfr
  rw [hS]
  clear hS hA hB h hfr
  go_enter Tryd.func55, Tryd.ntmps55
  go_wp2_with fail
  go_loopw [0, 1] (fun va vb wr => ∃ (a' : Option Addr) (l' : List Nat) (cap' : Nat) (b' : Option Addr) (m' : List Nat) (capb' : Nat), va = .slice a' l'.length cap' ∧ vb = .slice b' m'.length capb' ∧ l'.length ≤ cap' ∧ m'.length ≤ capb' ∧ l'.length + m'.length ≤ 131072 ∧ ES x cf cr w fb rb S a' l' b' m' wr)
    (fun va vb _ => sliceLen va + sliceLen vb)
  case atStart => exact ⟨a, l, cap, b, m, capb, rfl, rfl, hc, hcb, hl, E0.out⟩
  case round =>
    clear E0
    obtain ⟨a', l', cap', b', m', capb', rfl, rfl, hc1, hc2, hlm, hE⟩ := hrel
    cases l' with
    | nil =>
      cases m' with
      | nil =>
        have HE := Lib.hid hE
        clear hE
        simp only [List.length_nil]
        go_wp2_with fail
        go_end0
        obtain ⟨x', s, hf, _, _, h3, h4, _⟩ := HE.out.ex
        rw [each_nil] at h4
        exact ⟨rfl, x', hf, h4 ▸ h3⟩
      | cons b0 t =>
        obtain ⟨g2, o2, rfl, cb⟩ := hE.headB
        have ME := Lib.hid (fun q => (hE.drewN q).meet HFR.out b0 false true (fun s => each_b b0 t s) (by simp <;> omega) (fun _ _ h => h) (fun _ _ h => h.tail capb' hc2))
        have ME0 := Lib.hid (hE.meet HFR.out b0 false true (fun s => each_b b0 t s) (by simp <;> omega) (fun _ _ h => h) (fun _ _ h => h.tail capb' hc2))
        obtain ⟨M, hM⟩ : ∃ M, (b0 :: t).length = M := ⟨_, rfl⟩
        have HMr : Hid (M = t.length + 1) := Lib.hid (by rw [← hM]; simp)
        rw [hM] at hc2 hlm ⊢
        have HMM := Lib.hid hM
        have m1 : ((M : Int) == 0) = false := beq_eq_false_iff_ne.2 (by have := HMr.out; omega)
        have m2 : decide ((0 : Int) < (M : Int)) = true := decide_eq_true (by have := HMr.out; omega)
        have m6 : decide (0 < M) = true := decide_eq_true (by have := HMr.out; omega)
        have m3 : (0 : Int) < (M : Int) := by have := HMr.out; omega
        have m4 : ¬ (M : Int) < 1 := by omega
        have m5 : ¬ (capb' : Int) < (M : Int) := by omega
        clear hM
        simp only [List.length_nil]
        clear hE
        go_upto_region 1 with fail
        go_quiet (fail)
        go_upto_region 2 with fail
        go_quiet (fail)
        go_wp2_with fail
        with_reducible refine (ME.out _).mono ?_
        rintro e w5 ⟨rfl, h5⟩
        have H5 := Lib.hid h5
        clear h5 ME ME0
        go_wp2_with fail
        go_roundw
        case rel =>
          skip
          have hm := HMr.out
          exact ⟨_, [], cap', _, t, capb' - 1, rfl, by rw [hm, Nat.add_sub_cancel]; try (split <;> rfl), hc1, by omega, by (try simp only [List.length_nil]); (try simp only [List.length_nil] at hlm); omega, H5.out⟩
        case measure =>
          skip
          have hm := HMr.out
          simp [sliceLen]; try omega
    | cons a0 r =>
      cases m' with
      | nil =>
        obtain ⟨g, o, rfl, ca⟩ := hE.headA
        have ME := Lib.hid (fun q => (hE.drewN q).meet HFR.out a0 true false (fun s => each_a a0 r s) (by simp <;> omega) (fun _ _ h => h.tail cap' hc1) (fun _ _ h => h))
        have ME0 := Lib.hid (hE.meet HFR.out a0 true false (fun s => each_a a0 r s) (by simp <;> omega) (fun _ _ h => h.tail cap' hc1) (fun _ _ h => h))
        obtain ⟨N, hN⟩ : ∃ N, (a0 :: r).length = N := ⟨_, rfl⟩
        have HNr : Hid (N = r.length + 1) := Lib.hid (by rw [← hN]; simp)
        rw [hN] at hc1 hlm ⊢
        have HNN := Lib.hid hN
        have n1 : ((N : Int) == 0) = false := beq_eq_false_iff_ne.2 (by have := HNr.out; omega)
        have n2 : decide ((0 : Int) < (N : Int)) = true := decide_eq_true (by have := HNr.out; omega)
        have n6 : decide (0 < N) = true := decide_eq_true (by have := HNr.out; omega)
        have n3 : (0 : Int) < (N : Int) := by have := HNr.out; omega
        have n4 : ¬ (N : Int) < 1 := by omega
        have n5 : ¬ (cap' : Int) < (N : Int) := by omega
        clear hN
        simp only [List.length_nil]
        clear hE
        go_upto_region 1 with fail
        go_quiet (fail)
        go_upto_region 2 with fail
        go_quiet (fail)
        go_wp2_with fail
        with_reducible refine (ME.out _).mono ?_
        rintro e w5 ⟨rfl, h5⟩
        have H5 := Lib.hid h5
        clear h5 ME ME0
        go_wp2_with fail
        go_roundw
        case rel =>
          have hn := HNr.out
          skip
          exact ⟨_, r, cap' - 1, _, [], capb', by rw [hn, Nat.add_sub_cancel]; try (split <;> rfl), rfl, by omega, hc2, by (try simp only [List.length_nil]); (try simp only [List.length_nil] at hlm); omega, H5.out⟩
        case measure =>
          have hn := HNr.out
          skip
          simp [sliceLen]; try omega
      | cons b0 t =>
        rcases Nat.lt_trichotomy a0 b0 with hab | hab | hab
        · --less
          obtain ⟨g, o, rfl, ca⟩ := hE.headA
          obtain ⟨g2, o2, rfl, cb⟩ := hE.headB
          have ME := Lib.hid (fun q => (hE.drewN q).meet HFR.out a0 true false (fun s => each_less a0 b0 r t s hab) (by simp <;> omega) (fun _ _ h => h.tail cap' hc1) (fun _ _ h => h))
          have ME0 := Lib.hid (hE.meet HFR.out a0 true false (fun s => each_less a0 b0 r t s hab) (by simp <;> omega) (fun _ _ h => h.tail cap' hc1) (fun _ _ h => h))
          obtain ⟨N, hN⟩ : ∃ N, (a0 :: r).length = N := ⟨_, rfl⟩
          have HNr : Hid (N = r.length + 1) := Lib.hid (by rw [← hN]; simp)
          rw [hN] at hc1 hlm ⊢
          have HNN := Lib.hid hN
          have n1 : ((N : Int) == 0) = false := beq_eq_false_iff_ne.2 (by have := HNr.out; omega)
          have n2 : decide ((0 : Int) < (N : Int)) = true := decide_eq_true (by have := HNr.out; omega)
          have n6 : decide (0 < N) = true := decide_eq_true (by have := HNr.out; omega)
          have n3 : (0 : Int) < (N : Int) := by have := HNr.out; omega
          have n4 : ¬ (N : Int) < 1 := by omega
          have n5 : ¬ (cap' : Int) < (N : Int) := by omega
          clear hN
          obtain ⟨M, hM⟩ : ∃ M, (b0 :: t).length = M := ⟨_, rfl⟩
          have HMr : Hid (M = t.length + 1) := Lib.hid (by rw [← hM]; simp)
          rw [hM] at hc2 hlm ⊢
          have HMM := Lib.hid hM
          have m1 : ((M : Int) == 0) = false := beq_eq_false_iff_ne.2 (by have := HMr.out; omega)
          have m2 : decide ((0 : Int) < (M : Int)) = true := decide_eq_true (by have := HMr.out; omega)
          have m6 : decide (0 < M) = true := decide_eq_true (by have := HMr.out; omega)
          have m3 : (0 : Int) < (M : Int) := by have := HMr.out; omega
          have m4 : ¬ (M : Int) < 1 := by omega
          have m5 : ¬ (capb' : Int) < (M : Int) := by omega
          clear hM
          have v1 : decide ((a0 : Int) ≤ (b0 : Int)) = true := decide_eq_true (by omega)
          have v2 : decide ((b0 : Int) ≤ (a0 : Int)) = false := decide_eq_false (by omega)
          have v3 : decide (a0 ≤ b0) = true := decide_eq_true (by omega)
          have v4 : decide (b0 ≤ a0) = false := decide_eq_false (by omega)
          clear hE
          go_upto_region 1 with fail
          go_quiet (fail)
          go_upto_region 2 with fail
          go_quiet (fail)
          go_wp2_with fail
          with_reducible refine (ME.out _).mono ?_
          rintro e w5 ⟨rfl, h5⟩
          have H5 := Lib.hid h5
          clear h5 ME ME0
          go_wp2_with fail
          go_roundw
          case rel =>
            have hn := HNr.out
            have hm := HMr.out
            exact ⟨_, r, cap' - 1, _, (b0 :: t), capb', by rw [hn, Nat.add_sub_cancel]; try (split <;> rfl), by rw [HMM.out], by omega, by rw [HMM.out]; exact hc2, by (try rw [HNN.out]); (try rw [HMM.out]); (try simp only [List.length_nil]); (try simp only [List.length_nil] at hlm); omega, H5.out⟩
          case measure =>
            have hn := HNr.out
            have hm := HMr.out
            simp [sliceLen]; try omega
        · --same
          subst hab
          obtain ⟨g, o, rfl, ca⟩ := hE.headA
          obtain ⟨g2, o2, rfl, cb⟩ := hE.headB
          have ME := Lib.hid (fun q => (hE.drewN q).meet HFR.out a0 true true (fun s => each_same a0 r t s) (by simp <;> omega) (fun _ _ h => h.tail cap' hc1) (fun _ _ h => h.tail capb' hc2))
          have ME0 := Lib.hid (hE.meet HFR.out a0 true true (fun s => each_same a0 r t s) (by simp <;> omega) (fun _ _ h => h.tail cap' hc1) (fun _ _ h => h.tail capb' hc2))
          obtain ⟨N, hN⟩ : ∃ N, (a0 :: r).length = N := ⟨_, rfl⟩
          have HNr : Hid (N = r.length + 1) := Lib.hid (by rw [← hN]; simp)
          rw [hN] at hc1 hlm ⊢
          have HNN := Lib.hid hN
          have n1 : ((N : Int) == 0) = false := beq_eq_false_iff_ne.2 (by have := HNr.out; omega)
          have n2 : decide ((0 : Int) < (N : Int)) = true := decide_eq_true (by have := HNr.out; omega)
          have n6 : decide (0 < N) = true := decide_eq_true (by have := HNr.out; omega)
          have n3 : (0 : Int) < (N : Int) := by have := HNr.out; omega
          have n4 : ¬ (N : Int) < 1 := by omega
          have n5 : ¬ (cap' : Int) < (N : Int) := by omega
          clear hN
          obtain ⟨M, hM⟩ : ∃ M, (a0 :: t).length = M := ⟨_, rfl⟩
          have HMr : Hid (M = t.length + 1) := Lib.hid (by rw [← hM]; simp)
          rw [hM] at hc2 hlm ⊢
          have HMM := Lib.hid hM
          have m1 : ((M : Int) == 0) = false := beq_eq_false_iff_ne.2 (by have := HMr.out; omega)
          have m2 : decide ((0 : Int) < (M : Int)) = true := decide_eq_true (by have := HMr.out; omega)
          have m6 : decide (0 < M) = true := decide_eq_true (by have := HMr.out; omega)
          have m3 : (0 : Int) < (M : Int) := by have := HMr.out; omega
          have m4 : ¬ (M : Int) < 1 := by omega
          have m5 : ¬ (capb' : Int) < (M : Int) := by omega
          clear hM
          have v1 : decide ((a0 : Int) ≤ (a0 : Int)) = true := decide_eq_true (by omega)
          have v2 : decide ((a0 : Int) ≤ (a0 : Int)) = true := decide_eq_true (by omega)
          have v3 : decide (a0 ≤ a0) = true := decide_eq_true (by omega)
          have v4 : decide (a0 ≤ a0) = true := decide_eq_true (by omega)
          clear hE
          go_upto_region 1 with fail
          go_quiet (fail)
          go_upto_region 2 with fail
          go_quiet (fail)
          go_wp2_with fail
          with_reducible refine (ME.out _).mono ?_
          rintro e w5 ⟨rfl, h5⟩
          have H5 := Lib.hid h5
          clear h5 ME ME0
          go_wp2_with fail
          go_roundw
          case rel =>
            have hn := HNr.out
            have hm := HMr.out
            exact ⟨_, r, cap' - 1, _, t, capb' - 1, by rw [hn, Nat.add_sub_cancel]; try (split <;> rfl), by rw [hm, Nat.add_sub_cancel]; try (split <;> rfl), by omega, by omega, by (try simp only [List.length_nil]); (try simp only [List.length_nil] at hlm); omega, H5.out⟩
          case measure =>
            have hn := HNr.out
            have hm := HMr.out
            simp [sliceLen]; try omega
        · --more
          obtain ⟨g, o, rfl, ca⟩ := hE.headA
          obtain ⟨g2, o2, rfl, cb⟩ := hE.headB
          have ME := Lib.hid (fun q => (hE.drewN q).meet HFR.out b0 false true (fun s => each_more a0 b0 r t s hab) (by simp <;> omega) (fun _ _ h => h) (fun _ _ h => h.tail capb' hc2))
          have ME0 := Lib.hid (hE.meet HFR.out b0 false true (fun s => each_more a0 b0 r t s hab) (by simp <;> omega) (fun _ _ h => h) (fun _ _ h => h.tail capb' hc2))
          obtain ⟨N, hN⟩ : ∃ N, (a0 :: r).length = N := ⟨_, rfl⟩
          have HNr : Hid (N = r.length + 1) := Lib.hid (by rw [← hN]; simp)
          rw [hN] at hc1 hlm ⊢
          have HNN := Lib.hid hN
          have n1 : ((N : Int) == 0) = false := beq_eq_false_iff_ne.2 (by have := HNr.out; omega)
          have n2 : decide ((0 : Int) < (N : Int)) = true := decide_eq_true (by have := HNr.out; omega)
          have n6 : decide (0 < N) = true := decide_eq_true (by have := HNr.out; omega)
          have n3 : (0 : Int) < (N : Int) := by have := HNr.out; omega
          have n4 : ¬ (N : Int) < 1 := by omega
          have n5 : ¬ (cap' : Int) < (N : Int) := by omega
          clear hN
          obtain ⟨M, hM⟩ : ∃ M, (b0 :: t).length = M := ⟨_, rfl⟩
          have HMr : Hid (M = t.length + 1) := Lib.hid (by rw [← hM]; simp)
          rw [hM] at hc2 hlm ⊢
          have HMM := Lib.hid hM
          have m1 : ((M : Int) == 0) = false := beq_eq_false_iff_ne.2 (by have := HMr.out; omega)
          have m2 : decide ((0 : Int) < (M : Int)) = true := decide_eq_true (by have := HMr.out; omega)
          have m6 : decide (0 < M) = true := decide_eq_true (by have := HMr.out; omega)
          have m3 : (0 : Int) < (M : Int) := by have := HMr.out; omega
          have m4 : ¬ (M : Int) < 1 := by omega
          have m5 : ¬ (capb' : Int) < (M : Int) := by omega
          clear hM
          have v1 : decide ((a0 : Int) ≤ (b0 : Int)) = false := decide_eq_false (by omega)
          have v2 : decide ((b0 : Int) ≤ (a0 : Int)) = true := decide_eq_true (by omega)
          have v3 : decide (a0 ≤ b0) = false := decide_eq_false (by omega)
          have v4 : decide (b0 ≤ a0) = true := decide_eq_true (by omega)
          clear hE
          go_upto_region 1 with fail
          go_quiet (fail)
          go_upto_region 2 with fail
          go_quiet (fail)
          go_wp2_with fail
          with_reducible refine (ME.out _).mono ?_
          rintro e w5 ⟨rfl, h5⟩
          have H5 := Lib.hid h5
          clear h5 ME ME0
          go_wp2_with fail
          go_roundw
          case rel =>
            have hn := HNr.out
            have hm := HMr.out
            exact ⟨_, (a0 :: r), cap', _, t, capb' - 1, by rw [HNN.out], by rw [hm, Nat.add_sub_cancel]; try (split <;> rfl), by rw [HNN.out]; exact hc1, by omega, by (try rw [HNN.out]); (try rw [HMM.out]); (try simp only [List.length_nil]); (try simp only [List.length_nil] at hlm); omega, H5.out⟩
          case measure =>
            have hn := HNr.out
            have hm := HMr.out
            simp [sliceLen]; try omega
end Go.Proofs.YtflnpcgnenhogaaDoor.ls
