/- Statement VectorSame: what stands between two rounds of the law. Statement VectorSame: the list of calls that came in, opened. Statement VectorSame: the walk of the law. -/
import Derived.Test.YtbgbomlmgkgkoaaMgV
import Derived.Test.YtbgbomlmgkgkoaaPoQ
import Derived.Deep.Slices
import Derived.Deep.Strs
import Derived.ChangeOld
import Derived.Below
import Derived.BigQuiet
import Derived.BigRegion
import Derived.Deep.CutRange
import Derived.Deep.CutBlock
namespace Go.Proofs.Ytbgbomlmgkgkoaa.vc
open Go.RowKit Go.Proofs.Ytbgbomlmgkgkoaa.own Go.Proofs.Ytbgbomlmgkgkoaa.dv Go.Proofs.Ytbgbomlmgkgkoaa.po Go.Proofs.Ytbgbomlmgkgkoaa.arcI Go.Proofs.Ytbgbomlmgkgkoaa.st

/-- the law's list of calls, as it came in -/
def VOps (W : World) (aT : Option Addr) (len : Nat) (K M : Nat → Int) (X : Nat → Nat) : Prop :=
  ∀ j, j < len → ∃ b o, aT = some ⟨b, o, none⟩ ∧ b < W.heap.size ∧ W.cell? ⟨b, o + j * 6, none⟩ = some (.int .i64 (K j)) ∧ W.cell? ⟨b, o + j * 6 + 2, none⟩ = some (.int .i64 (M j)) ∧ W.cell? ⟨b, o + j * 6 + 4, none⟩ = some (.int .u64 (X j : Int)) ∧ X j < 18446744073709551616

structure LS (w : World) (va vb ib n wd ea k sa da eA sb db eB N : Nat) (g g' h : Nat → Nat) (wr : World) : Prop where
  ex : ∃ x, Fr (fun _ => 1000) x WQ w wr ∧ VX 0 20 40 x wr va n wd ea k sa da eA N 1 40 g ∧ VX 200 220 240 x wr vb n wd ea k sb db eB N 1 40 g' ∧ x ib = 50 ∧ ∃ cs : Array Value, wr.heap[ib]? = some (.cells cs 83 (0, 0)) ∧ ∀ i, i < n → cs[i]? = some (.int .u64 (h i : Int))
section
variable {w : World} {va vb ib n wd ea k sa da eA sb db eB N : Nat} {g g' h : Nat → Nat} {wr : World}
theorem PD_lo {c0 d0 : Nat} (hc : c0 + 9 < d0) : ∀ e, PD c0 d0 e → c0 ≤ e ∧ e ≤ d0 + 2 := fun e he => by
  rcases he with he | he
  · have := he.1.1; have := he.1.2; omega
  · have := he.1; have := he.2; omega
theorem PC_lo {c0 d0 : Nat} (hc : c0 + 9 < d0) : ∀ e, PC c0 d0 e → c0 ≤ e ∧ e ≤ d0 + 2 := fun e he => by
  rcases he with he | he
  · have := he.1; have := he.2; omega
  · have := he.1; have := he.2; omega
/-- the first vector turns -/
theorem LS.partsA (H : LS w va vb ib n wd ea k sa da eA sb db eB N g g' h wr) : ∃ x, VX 0 20 40 x wr va n wd ea k sa da eA N 1 40 g ∧
    ∀ x' w' N' g2, N ≤ N' → Fr x x' (RC 0 20 41) wr w' → VX 0 20 40 x' w' va n wd ea k sa da eA N' 1 40 g2 → LS w va vb ib n wd ea k sa da eA sb db eB N' g2 g' h w' := by
  obtain ⟨x, f, a, b, xi, cs, hc, hv⟩ := H
  refine ⟨x, a, fun x' w' N' g2 hN f' a' => ?_⟩
  have rc : ∀ e, RC 0 20 41 e → e ≤ 42 := fun e he => by
    rcases he with he | he | he
    · have := PC_lo (by omega) e he; omega
    · omega
    · omega
  have nb : ¬ RC 0 20 41 50 := fun q => by have := rc _ q; omega
  exact ⟨x', f.trans (f'.mono (fun e he => by have := rc e he; show e ≤ 400; omega)), a', (b.frame f' (fun e he hc => by have := PD_lo (by omega) e he; have := rc e hc; omega) (fun q => by have := rc _ q; omega)).mono hN, (f'.col _ (lt_of_block hc)).trans xi, cs, (f'.old _ (lt_of_block hc) (by rw [xi]; exact nb)).trans hc, hv⟩
theorem LS.partsB (H : LS w va vb ib n wd ea k sa da eA sb db eB N g g' h wr) : ∃ x, VX 200 220 240 x wr vb n wd ea k sb db eB N 1 40 g' ∧
    ∀ x' w' N' g2, N ≤ N' → Fr x x' (RC 200 220 241) wr w' → VX 200 220 240 x' w' vb n wd ea k sb db eB N' 1 40 g2 → LS w va vb ib n wd ea k sa da eA sb db eB N' g g2 h w' := by
  obtain ⟨x, f, a, b, xi, cs, hc, hv⟩ := H
  refine ⟨x, b, fun x' w' N' g2 hN f' b' => ?_⟩
  have rc : ∀ e, RC 200 220 241 e → 200 ≤ e ∧ e ≤ 242 := fun e he => by
    rcases he with he | he | he
    · have := PC_lo (by omega) e he; omega
    · omega
    · omega
  have nb : ¬ RC 200 220 241 50 := fun q => by have := rc _ q; omega
  exact ⟨x', f.trans (f'.mono (fun e he => by have := rc e he; show e ≤ 400; omega)), (a.frame f' (fun e he hc => by have := PD_lo (by omega) e he; have := rc e hc; omega) (fun q => by have := rc _ q; omega)).mono hN, b', (f'.col _ (lt_of_block hc)).trans xi, cs, (f'.old _ (lt_of_block hc) (by rw [xi]; exact nb)).trans hc, hv⟩
/-- blocks that bear no colour of the law's two vectors may turn -/
theorem LS.turnC (H : LS w va vb ib n wd ea k sa da eA sb db eB N g g' h wr) {w' : World} {C : Nat → Prop} (hC : ∀ e, C e → 51 ≤ e ∧ e < 200 ∨ 243 < e ∧ e ≤ 400) (hf : ∀ x : Nat → Nat, ∃ x', Fr x x' C wr w') : LS w va vb ib n wd ea k sa da eA sb db eB N g g' h w' := by
  obtain ⟨x, f, a, b, xi, cs, hc, hv⟩ := H
  obtain ⟨x', f'⟩ := hf x
  exact ⟨x', f.trans (f'.mono (fun e he => by have := hC e he; show e ≤ 400; omega)), a.frame f' (fun e he hc => by have := PD_lo (by omega) e he; have := hC e hc; omega) (fun q => by have := hC _ q; omega), b.frame f' (fun e he hc => by have := PD_lo (by omega) e he; have := hC e hc; omega) (fun q => by have := hC _ q; omega), (f'.col _ (lt_of_block hc)).trans xi, cs, (f'.old _ (lt_of_block hc) (by rw [xi]; exact fun q => by have := hC _ q; omega)).trans hc, hv⟩
theorem LS.below (H : LS w va vb ib n wd ea k sa da eA sb db eB N g g' h wr) {w' : World} (hb : Below wr.heap.size wr w') : LS w va vb ib n wd ea k sa da eA sb db eB N g g' h w' :=
  H.turnC (C := fun e => e = 60) (fun _ he => by omega) (fun x => ⟨_, Fr.of_below hb rfl⟩)
theorem LS.mono (H : LS w va vb ib n wd ea k sa da eA sb db eB N g g' h wr) {N' : Nat} (hN : N ≤ N') : LS w va vb ib n wd ea k sa da eA sb db eB N' g g' h wr := by
  obtain ⟨x, f, a, b, r⟩ := H; exact ⟨x, f, a.mono hN, b.mono hN, r⟩
theorem LS.cell (H : LS w va vb ib n wd ea k sa da eA sb db eB N g g' h wr) {i : Nat} (hi : i < n) : wr.cell? ⟨ib, i, none⟩ = some (.int .u64 (h i : Int)) ∧ wr.frozen? ⟨ib, i, none⟩ = false := by
  obtain ⟨x, f, a, b, xi, cs, hc, hv⟩ := H
  exact ⟨by rw [cell_of_row _ _ _ _ _ _ hc]; exact hv i hi, frozen_of_row _ _ _ _ _ hc⟩
theorem LS.isSet (H : LS w va vb ib n wd ea k sa da eA sb db eB N g g' h wr) {i : Nat} (hi : i < n) (v : Nat) : LS w va vb ib n wd ea k sa da eA sb db eB N g g' (fun j => if j = i then v else h j) (wr.setCell ⟨ib, i, none⟩ (.int .u64 (v : Int))) := by
  obtain ⟨x, f, a, b, xi, cs, hc, hv⟩ := H
  have f' : Fr x x (fun e => e = 50) wr (wr.setCell ⟨ib, i, none⟩ (.int .u64 (v : Int))) := Fr.same rfl rfl rfl (by simp) (fun b _ hC => Below.heap_setCell wr _ _ _ (by rintro rfl; exact hC xi))
  refine ⟨x, f.trans (f'.mono (fun e he => by show e ≤ 400; omega)), a.frame f' (fun e he hc => by have := PD_lo (by omega) e he; omega) (by omega), b.frame f' (fun e he hc => by have := PD_lo (by omega) e he; omega) (by omega), xi, cs.setIfInBounds i (.int .u64 (v : Int)), heap_setCell_same wr ib i _ _ _ hc, fun j hj => ?_⟩
  have hcs := hv i hi
  by_cases hji : j = i
  · subst hji; rw [Array.getElem?_setIfInBounds_self_of_lt (Array.getElem?_eq_some_iff.1 hcs).1, if_pos rfl]
  · rw [Array.getElem?_setIfInBounds_ne (fun e => hji e.symm), if_neg hji]; exact hv j hj
theorem LS.congr (H : LS w va vb ib n wd ea k sa da eA sb db eB N g g' h wr) {h2 : Nat → Nat} (he : ∀ i, i < n → h i = h2 i) : LS w va vb ib n wd ea k sa da eA sb db eB N g g' h2 wr := by
  obtain ⟨x, f, a, b, xi, cs, hc, hv⟩ := H
  exact ⟨x, f, a, b, xi, cs, hc, fun i hi => by rw [← he i hi]; exact hv i hi⟩
theorem LS.old (H : LS w va vb ib n wd ea k sa da eA sb db eB N g g' h wr) : Below w.heap.size w wr := by
  obtain ⟨x, f, -⟩ := H
  exact f.below_all (fun b _ hC => by have : (1000 : Nat) ≤ 400 := hC; omega)
theorem gc_rc {c0 d0 t0 : Nat} : ∀ e, GC c0 d0 t0 e → RC c0 d0 t0 e := fun _ he => he.elim .inl (fun h => .inr (.inl h))
theorem LS.setA (H : LS w va vb ib n wd ea k sa da eA sb db eB N g g' h wr) (p : PR 0 20 40 41 n wd ea k 1 40) {i v : Nat} (hi : i < n) (hN : N + 16 < 1099511627776) (hvl : v < 256 ^ wd) :
    Calls Try.prog 40 #[.pointer (some ⟨va, 0, none⟩), .int .i64 (i : Int), .int .u64 (v : Int)] wr fun e w' => e = .returned (.int .i64 0) ∧ LS w va vb ib n wd ea k sa da eA sb db eB (N + 16) (fun j => if j = i then v else g j) g' h w' := by
  obtain ⟨x, a, T⟩ := H.partsA
  refine (a.set p hi hN hvl).mono ?_
  rintro e w' ⟨rfl, x', f', a'⟩
  exact ⟨rfl, T x' w' _ _ (by omega) (f'.mono gc_rc) a'⟩
theorem LS.fillA (H : LS w va vb ib n wd ea k sa da eA sb db eB N g g' h wr) (p : PR 0 20 40 41 n wd ea k 1 40) {v : Nat} (hN : N + 8 * 4097 < 1099511627776) (hvl : v < 256 ^ wd) :
    Calls Try.prog 36 #[.pointer (some ⟨va, 0, none⟩), .int .u64 (v : Int)] wr fun e w' => e = .returned (.int .i64 0) ∧ LS w va vb ib n wd ea k sa da eA sb db eB (N + 8 * k) (fun _ => v) g' h w' := by
  obtain ⟨x, a, T⟩ := H.partsA
  refine (a.fill p hN hvl).mono ?_
  rintro e w' ⟨rfl, x', f', a'⟩
  exact ⟨rfl, T x' w' _ _ (by omega) (f'.mono gc_rc) a'⟩
theorem LS.getA (H : LS w va vb ib n wd ea k sa da eA sb db eB N g g' h wr) (p : PR 0 20 40 41 n wd ea k 1 40) {i : Nat} (hi : i < n) (hN : N + 8 < 1099511627776) (hg : g i < 256 ^ wd) :
    Calls Try.prog 38 #[.pointer (some ⟨va, 0, none⟩), .int .i64 (i : Int)] wr fun e w' => e = .returned (.tuple #[.int .u64 (g i : Int), .int .i64 0]) ∧ LS w va vb ib n wd ea k sa da eA sb db eB (N + 8) g g' h w' := by
  obtain ⟨x, a, T⟩ := H.partsA
  refine (a.get p hi hN hg).mono ?_
  rintro e w' ⟨rfl, x', f', a'⟩
  exact ⟨rfl, T x' w' _ _ (by omega) (f'.mono gc_rc) a'⟩
theorem LS.saveA (H : LS w va vb ib n wd ea k sa da eA sb db eB N g g' h wr) (p : PR 0 20 40 41 n wd ea k 1 40) (hN : N + 8 * 4097 < 1099511627776) :
    Calls Try.prog 41 #[.pointer (some ⟨va, 0, none⟩)] wr fun e w' => ∃ V, VN V 2 512 wd n g ∧ e = .returned (.tuple #[.string ⟨(readL V 2 512 0 (n * wd)).toArray⟩, .int .i64 0]) ∧ LS w va vb ib n wd ea k sa da eA sb db eB (N + 8 * k) g g' h w' := by
  obtain ⟨x, a, T⟩ := H.partsA
  refine (a.save p hN).mono ?_
  rintro e w' ⟨V, q, rfl, x', f', a'⟩
  exact ⟨V, q, rfl, T x' w' _ _ (by omega) f' a'⟩
theorem LS.setB (H : LS w va vb ib n wd ea k sa da eA sb db eB N g g' h wr) (p : PR 200 220 240 241 n wd ea k 1 40) {i v : Nat} (hi : i < n) (hN : N + 16 < 1099511627776) (hvl : v < 256 ^ wd) :
    Calls Try.prog 40 #[.pointer (some ⟨vb, 0, none⟩), .int .i64 (i : Int), .int .u64 (v : Int)] wr fun e w' => e = .returned (.int .i64 0) ∧ LS w va vb ib n wd ea k sa da eA sb db eB (N + 16) g (fun j => if j = i then v else g' j) h w' := by
  obtain ⟨x, a, T⟩ := H.partsB
  refine (a.set p hi hN hvl).mono ?_
  rintro e w' ⟨rfl, x', f', a'⟩
  exact ⟨rfl, T x' w' _ _ (by omega) (f'.mono gc_rc) a'⟩
theorem LS.fillB (H : LS w va vb ib n wd ea k sa da eA sb db eB N g g' h wr) (p : PR 200 220 240 241 n wd ea k 1 40) {v : Nat} (hN : N + 8 * 4097 < 1099511627776) (hvl : v < 256 ^ wd) :
    Calls Try.prog 36 #[.pointer (some ⟨vb, 0, none⟩), .int .u64 (v : Int)] wr fun e w' => e = .returned (.int .i64 0) ∧ LS w va vb ib n wd ea k sa da eA sb db eB (N + 8 * k) g (fun _ => v) h w' := by
  obtain ⟨x, a, T⟩ := H.partsB
  refine (a.fill p hN hvl).mono ?_
  rintro e w' ⟨rfl, x', f', a'⟩
  exact ⟨rfl, T x' w' _ _ (by omega) (f'.mono gc_rc) a'⟩
theorem LS.getB (H : LS w va vb ib n wd ea k sa da eA sb db eB N g g' h wr) (p : PR 200 220 240 241 n wd ea k 1 40) {i : Nat} (hi : i < n) (hN : N + 8 < 1099511627776) (hg : g' i < 256 ^ wd) :
    Calls Try.prog 38 #[.pointer (some ⟨vb, 0, none⟩), .int .i64 (i : Int)] wr fun e w' => e = .returned (.tuple #[.int .u64 (g' i : Int), .int .i64 0]) ∧ LS w va vb ib n wd ea k sa da eA sb db eB (N + 8) g g' h w' := by
  obtain ⟨x, a, T⟩ := H.partsB
  refine (a.get p hi hN hg).mono ?_
  rintro e w' ⟨rfl, x', f', a'⟩
  exact ⟨rfl, T x' w' _ _ (by omega) (f'.mono gc_rc) a'⟩
theorem LS.saveB (H : LS w va vb ib n wd ea k sa da eA sb db eB N g g' h wr) (p : PR 200 220 240 241 n wd ea k 1 40) (hN : N + 8 * 4097 < 1099511627776) :
    Calls Try.prog 41 #[.pointer (some ⟨vb, 0, none⟩)] wr fun e w' => ∃ V, VN V 2 512 wd n g' ∧ e = .returned (.tuple #[.string ⟨(readL V 2 512 0 (n * wd)).toArray⟩, .int .i64 0]) ∧ LS w va vb ib n wd ea k sa da eA sb db eB (N + 8 * k) g g' h w' := by
  obtain ⟨x, a, T⟩ := H.partsB
  refine (a.save p hN).mono ?_
  rintro e w' ⟨V, q, rfl, x', f', a'⟩
  exact ⟨V, q, rfl, T x' w' _ _ (by omega) f' a'⟩
end

end Go.Proofs.Ytbgbomlmgkgkoaa.vc

namespace Go.Proofs.Ytbgbomlmgkgkoaa.vc
open Go.RowKit Go.ChangeShapes Go.WideShapes Go.Proofs.Ytbgbomlmgkgkoaa.arcI

theorem v_op : Try.prog.cellsOf 90 = 6 := by kernel_rfl
theorem v_int : Try.prog.cellsOf 3 = 1 := by kernel_rfl
theorem v_u64 : Try.prog.cellsOf 83 = 1 := by kernel_rfl
theorem v_str : Try.prog.cellsOf 9 = 1 := by kernel_rfl
theorem v_int_of {H : Type} {enc : TypeId × Value → H} {P : Program} {w : World} {base : Nat} {sp : Nat → Bool} {held : Bool} {fuel : Nat} {t : TypeId} {k : IntKind} {c : Value} {y : DataW H × List MemPlace}
    (ht : P.underlying t = some (.int k)) (h : DataW.trod enc P w base sp held fuel t [c] = some y) : ∃ n, c = .int k n ∧ (Lit.int k n).wf = true := by
  cases fuel with
  | zero => simp [DataW.trod] at h
  | succ fuel =>
    cases c <;> simp [DataW.trod, ht] at h
    rename_i k' n
    obtain ⟨⟨rfl, h1⟩, rfl⟩ := h
    exact ⟨n, rfl, h1⟩
theorem u64_nat {n : Int} (h : (Lit.int .u64 n).wf = true) : ∃ m : Nat, n = (m : Int) ∧ m < 18446744073709551616 := by
  have h1 : (decide (IntKind.u64.min ≤ n) && decide (n ≤ IntKind.u64.max)) = true := h
  rw [Bool.and_eq_true] at h1
  have a := of_decide_eq_true h1.1
  have b := of_decide_eq_true h1.2
  have e1 : IntKind.u64.min = 0 := by decide
  have e2 : IntKind.u64.max = 18446744073709551615 := by decide
  rw [e1] at a
  rw [e2] at b
  exact ⟨n.toNat, by omega, by omega⟩

set_option maxRecDepth 100000 in
theorem v_open_op {H : Type} {enc : TypeId × Value → H} {w : World} {base : Nat} {sp : Nat → Bool} {held : Bool} {fuel : Nat} {v0 v1 v2 v3 v4 v5 : Value} {x : DataW H × List MemPlace} (h : DataW.trod enc Try.prog w base sp held fuel 90 [v0, v1, v2, v3, v4, v5] = some x) :
    ∃ (a b : Int) (m : Nat), v0 = .int .i64 a ∧ v2 = .int .i64 b ∧ v4 = .int .u64 (m : Int) ∧ m < 18446744073709551616 := by
  obtain ⟨xs, n, _, _, _, hlen, hf⟩ := DataW.trod_struct Try.underlying90 h
  match xs, hlen with
  | [y0, y1, y2, y3, y4, y5], _ =>
    have h0 := hf 0 _ rfl
    have h2 := hf 2 _ rfl
    have h4 := hf 4 _ rfl
    simp [v_int, v_u64] at h0 h2 h4
    obtain ⟨m0, rfl, -⟩ := v_int_of Try.underlying3 h0
    obtain ⟨m2, rfl, -⟩ := v_int_of Try.underlying3 h2
    obtain ⟨m4, rfl, hw⟩ := v_int_of Try.underlying83 h4
    obtain ⟨q, rfl, hq⟩ := u64_nat hw
    exact ⟨m0, m2, q, rfl, rfl, rfl, hq⟩

set_option maxRecDepth 100000 in
theorem vops_open {H : Type} {enc : TypeId × Value → H} {W : World} {a : Option Addr} {len cap : Nat} {d : DataW H} {p : List MemPlace}
    (h : DataW.Trod enc Try.prog W 0 (fun _ => true) true 87 (.slice a len cap) d p) : ∃ K M X, VOps W a len K M X ∧ len ≤ 9223372036854775807 := by
  obtain ⟨fuel, hf⟩ := h
  rcases Deep.open_slice Try.underlying87 hf with ⟨hcs, _⟩ | ⟨x, len', cap', m, n, D, Pl, hcs, _, hl, hm, hmm, _, hx⟩
  · simp [Value.cells] at hcs
    obtain ⟨rfl, rfl, rfl⟩ := hcs
    exact ⟨fun _ => 0, fun _ => 0, fun _ => 0, fun j hj => by omega, by omega⟩
  · simp [Value.cells] at hcs
    obtain ⟨rfl, rfl, rfl⟩ := hcs
    have hm2 : m = cap := by simpa using hmm
    by_cases hl0 : len = 0
    · exact ⟨fun _ => 0, fun _ => 0, fun _ => 0, fun j hj => by omega, by omega⟩
    have hspot : x.spot = none := by
      obtain ⟨cs', h1, _⟩ := hx 0 (by omega)
      rw [v_op] at h1
      obtain ⟨_, hlen, hget⟩ := World.cells?_some h1
      have g0 := hget 0 (by omega)
      rw [List.getElem?_eq_getElem (by omega)] at g0
      have := World.cell?_spot g0
      simpa [Addr.add] using this
    obtain ⟨b, o, sp⟩ := x
    have hsp : sp = none := hspot
    subst hsp
    clear hspot
    have key : ∀ j, j < len → ∃ y : Int × Int × Nat, ∃ b' o', some (⟨b, o, none⟩ : Addr) = some (⟨b', o', none⟩ : Addr) ∧ b' < W.heap.size ∧ W.cell? ⟨b', o' + j * 6, none⟩ = some (.int .i64 y.1) ∧ W.cell? ⟨b', o' + j * 6 + 2, none⟩ = some (.int .i64 y.2.1) ∧ W.cell? ⟨b', o' + j * 6 + 4, none⟩ = some (.int .u64 (y.2.2 : Int)) ∧ y.2.2 < 18446744073709551616 := by
      intro j hj
      obtain ⟨cs', h1, h2⟩ := hx j (by omega)
      rw [v_op] at h1
      obtain ⟨_, hlen, hget⟩ := World.cells?_some h1
      match cs', hlen with
      | [c0, c1, c2, c3, c4, c5], _ =>
        obtain ⟨z0, z2, s, rfl, rfl, rfl, hs⟩ := v_open_op h2
        have g0 := hget 0 (by omega)
        have g2 := hget 2 (by omega)
        have g4 := hget 4 (by omega)
        rw [Addr.add_lit, Addr.add_lit] at g0 g2 g4
        have g0' : W.cell? ⟨b, o + j * 6, none⟩ = some (.int .i64 z0) := by simpa using g0
        have g2' : W.cell? ⟨b, o + j * 6 + 2, none⟩ = some (.int .i64 z2) := by simpa using g2
        have g4' : W.cell? ⟨b, o + j * 6 + 4, none⟩ = some (.int .u64 (s : Int)) := by simpa using g4
        exact ⟨(z0, z2, s), b, o, rfl, World.block_lt_of_cell? W _ g0', g0', g2', g4', hs⟩
    obtain ⟨F, hF⟩ := Deep.choose_lt key
    exact ⟨fun j => (F j).1, fun j => (F j).2.1, fun j => (F j).2.2, hF, by simp only [maxLen] at hm; omega⟩

end Go.Proofs.Ytbgbomlmgkgkoaa.vc

namespace Go.Proofs.Ytbgbomlmgkgkoaa.vc
open Go.RowKit Go.Proofs.Ytbgbomlmgkgkoaa.own Go.Proofs.Ytbgbomlmgkgkoaa.dv Go.Proofs.Ytbgbomlmgkgkoaa.po Go.Proofs.Ytbgbomlmgkgkoaa.arcI Go.Proofs.Ytbgbomlmgkgkoaa.st

theorem vmodP_is (m : Int) (P : Nat) (h1 : 1 ≤ P) (h2 : P ≤ 1099511627776) : ∃ z : Nat, (wrap64 (m.tmod (P : Int) + (P : Int))).tmod (P : Int) = z ∧ z < P := by
  have q1 : -(P : Int) < m.tmod (P : Int) := Int.lt_tmod_of_pos m (by omega)
  have q2 : m.tmod (P : Int) < (P : Int) := Int.tmod_lt_of_pos m (by omega)
  generalize m.tmod (P : Int) = r at q1 q2 ⊢
  rw [IntWalk.wrap64_in (r + (P : Int)) (by omega), Int.tmod_eq_emod_of_nonneg (by omega)]
  have q3 := Int.emod_nonneg (r + (P : Int)) (show (P : Int) ≠ 0 by omega)
  have q4 := Int.emod_lt_of_pos (r + (P : Int)) (show (0 : Int) < (P : Int) by omega)
  exact ⟨((r + (P : Int)) % (P : Int)).toNat, by omega, by omega⟩
theorem vmod9_is (m : Int) : ∃ z : Nat, wrap64 (1 + (wrap64 (m.tmod 9 + 9)).tmod 9) = z ∧ 1 ≤ z ∧ z ≤ 9 := by
  have h1 : -9 < m.tmod 9 := Int.lt_tmod_of_pos m (by omega)
  have h2 : m.tmod 9 < 9 := Int.tmod_lt_of_pos m (by omega)
  generalize m.tmod 9 = r at h1 h2 ⊢
  rw [IntWalk.wrap64_in (r + 9) (by omega), Int.tmod_eq_emod_of_nonneg (by omega), IntWalk.wrap64_in _ (by omega)]
  exact ⟨(1 + (r + 9) % 9).toNat, by omega, by omega, by omega⟩
theorem stats_f5 (a1 a2 a3 a4 a5 : Int) (W : World) : (Instr.field 42 (Value.agg #[.int .i64 a1, .int .i64 a2, .int .i64 a3, .int .i64 a4, .int .i64 a5, .int .i64 0, .int .i64 0]) 5).run Try.prog W = .ok (.int .i64 0) W := by kernel_rfl
theorem stats_f6 (a1 a2 a3 a4 a5 : Int) (W : World) : (Instr.field 42 (Value.agg #[.int .i64 a1, .int .i64 a2, .int .i64 a3, .int .i64 a4, .int .i64 a5, .int .i64 0, .int .i64 0]) 6).run Try.prog W = .ok (.int .i64 0) W := by kernel_rfl
theorem ea_of {wd m : Nat} (hwd : WdOk wd) (hm : 1 ≤ m ∧ m ≤ 2) : ∃ ea, ea * wd = 512 * m ∧ 64 ≤ ea ∧ ea ≤ 1024 := by
  rcases hwd with rfl | rfl | rfl | rfl
  · exact ⟨512 * m, by omega, by omega, by omega⟩
  · exact ⟨256 * m, by omega, by omega, by omega⟩
  · exact ⟨128 * m, by omega, by omega, by omega⟩
  · exact ⟨64 * m, by omega, by omega, by omega⟩
theorem k_small {n ea : Nat} (hn : n < 900) (he : 64 ≤ ea) : max 1 ((n + ea - 1) / ea) ≤ 15 := by
  have h : (n + ea - 1) / ea < 16 := Nat.div_lt_of_lt_mul (by omega)
  omega
theorem Try.infoU64 : (Try.prog.info? 83).map (fun i => (i.zero, i.size, i.bytes)) = some (some (.int .u64 0), 1, 8) := by kernel_rfl

set_option maxRecDepth 100000 in
set_option maxHeartbeats 25600000 in
theorem vsame_walk (n0 w0 f0 m0 : Int) (aT : Option Addr) (len cap : Nat) (hlen : len ≤ 9223372036854775807) (K M : Nat → Int) (X : Nat → Nat) (w : World) (hops : VOps w aT len K M X) :
    Calls Try.prog 8 #[.int .i64 n0, .int .i64 w0, .int .i64 f0, .int .i64 m0, .slice aT len cap] w fun e w' => e = .returned (.bool true) ∧ Below w.heap.size w w' := by
  have OPS := Lib.hid hops
  clear hops
  obtain ⟨n, hn, hn2⟩  := vmodP_is n0 900 (by omega) (by omega)
  obtain ⟨z, hz, hz2⟩  := vmodP_is w0 4 (by omega) (by omega)
  obtain ⟨fa, hfa, fa1, fa2⟩ := vmod9_is f0
  obtain ⟨fb, hfb, fb1, fb2⟩ := vmod9_is m0
  rw [show ((900 : Nat) : Int) = 900 from rfl] at hn
  rw [show ((4 : Nat) : Int) = 4 from rfl] at hz
  have HN := Lib.hid hn
  have HZ := Lib.hid hz
  have HFA := Lib.hid hfa
  have HFB := Lib.hid hfb
  clear hn hz hfa hfb
  go_enter Try.func8, Try.ntmps8
  go_upto_region 2 with fail
  rw [HN.out]
  go_cut [1] from 43 to 49 (fun s1 wc => ∃ wd : Nat, s1 = .int .i64 (wd : Int) ∧ WdOk wd ∧ Below w.heap.size w wc)
  case first => as_aux_lemma =>
    have hz := HZ.out
    clear HZ
    have h4 : z = 0 ∨ z = 1 ∨ z = 2 ∨ z = 3 := by omega
    rcases h4 with rfl | rfl | rfl | rfl
    · go_wp2_with fail
      go_meet
      case rel => exact ⟨1, rfl, .inl rfl, (Below.refl _ w).alloc (Nat.le_refl _) _⟩
    · go_wp2_with fail
      go_meet
      case rel => exact ⟨2, rfl, .inr (.inl rfl), (Below.refl _ w).alloc (Nat.le_refl _) _⟩
    · go_wp2_with fail
      go_meet
      case rel => exact ⟨4, rfl, .inr (.inr (.inl rfl)), (Below.refl _ w).alloc (Nat.le_refl _) _⟩
    · go_wp2_with fail
      go_meet
      case rel => exact ⟨8, rfl, .inr (.inr (.inr rfl)), (Below.refl _ w).alloc (Nat.le_refl _) _⟩
  case rest => as_aux_lemma =>
    obtain ⟨wd, rfl, hwd, hbc⟩ := hcut
    obtain ⟨ea, hea, hea1, hea2⟩ := ea_of hwd (m := 1) (by omega)
    obtain ⟨k, hk⟩ : ∃ k, max 1 ((n + ea - 1) / ea) = k := ⟨_, rfl⟩
    have hk15 : k ≤ 15 := by rw [← hk]; exact k_small hn2 hea1
    have PA := Lib.hid (PR.of (c0 := 0) (d0 := 20) (v0 := 40) (t0 := 41) (nb := 40) ⟨by omega, by omega, by omega⟩ hwd hea (by omega) hk (by omega) (by omega))
    have PB := Lib.hid (PR.of (c0 := 200) (d0 := 220) (v0 := 240) (t0 := 241) (nb := 40) ⟨by omega, by omega, by omega⟩ hwd hea (by omega) hk (by omega) (by omega))
    have f0' : Fr (fun _ => 1000) (paint (fun _ => 1000) w.heap.size 60) WQ w wc := Fr.of_below hbc (show 60 ≤ 400 by omega)
    have F0 := Lib.hid f0'
    have WD := Lib.hid hwd
    clear hbc f0' hea hk HZ HN
    generalize paint (fun _ => 1000) w.heap.size 60 = x0 at F0
    have hfa := HFA.out
    go_wp2_with fail
    clear hfa
    refine (space_any x0 0 20 30 (by omega) (by omega) (by omega) wc 40 1 fa (by omega) (by omega) (by omega) (by omega)).mono ?_
    rintro e w1 ⟨sa, da, eA, x1, Va, rfl, f1, v1, e1⟩
    have F1 := Lib.hid (F0.out.trans (f1.mono (D := WQ) (fun e he => by
      rcases he with he | he
      · exact PC_W (by omega) e he
      · have := he.2; show e ≤ 400; omega)))
    have V1 := Lib.hid v1
    have E1 := Lib.hid e1
    clear f1 v1 e1 F0
    have hfb := HFB.out
    go_wp2_with fail
    clear hfb
    refine (space_any x1 200 220 230 (by omega) (by omega) (by omega) w1 40 1 fb (by omega) (by omega) (by omega) (by omega)).mono ?_
    rintro e w2 ⟨sb, db, eB, x2, Vb, rfl, f2, v2, e2⟩
    have c2 : ∀ e, S2 200 220 230 e → 200 ≤ e ∧ e ≤ 231 := fun e he => by
      rcases he with he | he
      · have := PC_lo (by omega) e he; omega
      · have := he.1; have := he.2; omega
    have F2 := Lib.hid (F1.out.trans (f2.mono (D := WQ) (fun e he => by have := c2 e he; show e ≤ 400; omega)))
    have V1' := Lib.hid (V1.out.frame f2 (fun e he hc => by have := PD_lo (by omega) e he; have := c2 e hc; omega))
    have E1' := Lib.hid (E1.out.frame f2 (fun e he hc => by have := he.2; have := c2 e hc; omega))
    have V2 := Lib.hid v2
    have E2 := Lib.hid e2
    clear f2 v2 e2 F1 V1 E1 c2
    go_wp2_with fail
    refine (VX.made 0 20 30 40 41 x2 w2 n wd ea k sa da eA 1 40 Va PA.out V1'.out E1'.out (by omega) (by omega) (fun h => by have := h.2; omega) (fun h => by have := h.2; omega) (by omega)).mono ?_
    rintro e w3 ⟨va, x3, rfl, f3, v3⟩
    have c3 : ∀ e, NC 0 20 30 41 40 e → e ≤ 41 := fun e he => by
      rcases he with he | he | he | he
      · have := PC_lo (by omega) e he; omega
      · have := he.2; omega
      · omega
      · omega
    have F3 := Lib.hid (F2.out.trans (f3.mono (D := WQ) (fun e he => by have := c3 e he; show e ≤ 400; omega)))
    have V2' := Lib.hid (V2.out.frame f3 (fun e he hc => by have := PD_lo (by omega) e he; have := c3 e hc; omega))
    have E2' := Lib.hid (E2.out.frame f3 (fun e he hc => by have := he.1; have := c3 e hc; omega))
    have A3 := Lib.hid v3
    clear f3 v3 F2 V1' E1' V2 E2 c3
    go_wp2_with fail
    refine (VX.made 200 220 230 240 241 x3 w3 n wd ea k sb db eB 1 40 Vb PB.out V2'.out E2'.out (by omega) (by omega) (fun h => by have := h.2; omega) (fun h => by have := h.2; omega) (by omega)).mono ?_
    rintro e w4 ⟨vb, x4, rfl, f4, v4⟩
    have c4 : ∀ e, NC 200 220 230 241 240 e → 200 ≤ e ∧ e ≤ 241 := fun e he => by
      rcases he with he | he | he | he
      · have := PC_lo (by omega) e he; omega
      · have := he.1; have := he.2; omega
      · omega
      · omega
    have F4 := Lib.hid (F3.out.trans (f4.mono (D := WQ) (fun e he => by have := c4 e he; show e ≤ 400; omega)))
    have A4 := Lib.hid (A3.out.frame f4 (fun e he hc => by have := PD_lo (by omega) e he; have := c4 e hc; omega) (fun q => by have := c4 _ q; omega))
    have B4 := Lib.hid v4
    clear f4 v4 F3 V2' E2' A3 c4
    go_wp2_with fail
    refine (vawake_any w4).mono ?_
    rintro e w5 ⟨rfl, hb5⟩
    have f5 : Fr x4 (paint x4 w4.heap.size 60) (fun e => e = 60) w4 w5 := Fr.of_below hb5 rfl
    have F5 := Lib.hid (F4.out.trans (f5.mono (D := WQ) (fun e he => by show e ≤ 400; omega)))
    have A5 := Lib.hid (A4.out.frame f5 (fun e he hc => by have := PD_lo (by omega) e he; omega) (by omega))
    have B5 := Lib.hid (B4.out.frame f5 (fun e he hc => by have := PD_lo (by omega) e he; omega) (by omega))
    clear f5 hb5 F4 A4 B4
    generalize paint x4 w4.heap.size 60 = x5 at F5 A5 B5
    obtain ⟨i0, hi, hz0, hz1, hzb⟩ := info_parts Try.infoU64
    obtain ⟨w6, hrun, hown, hg⟩ := run_make_full (P := Try.prog) w5 0 88 83 i0 _ 1 (by kernel_rfl) hi hz0 hz1 .i64 .i64 n (by rw [hzb]; omega) (by simp only [maxLen]; omega) (Nat.zero_le _)
    have S6 : Hid (LS w va vb w5.heap.size n wd ea k sa da eA sb db eB 400 (fun _ => 0) (fun _ => 0) (fun _ => 0) w6) := Lib.hid (by
      have hb6 : Below w5.heap.size w5 w6 := ⟨hg.os, hg.tape, hg.output, hg.size, fun k hk => hg.block k hk (by simp)⟩
      have f6 : Fr x5 (paint x5 w5.heap.size 50) (fun e => e = 50) w5 w6 := Fr.of_below hb6 rfl
      rcases hown.2 with ⟨hv, -⟩ | ⟨g, cp, cur, hv, -, hgc, h1, h2, h3, h4⟩
      · cases hv
      have ev := Value.slice.inj hv
      have e1 := ev.1
      simp at e1
      subst e1
      refine ⟨paint x5 w5.heap.size 50, F5.out.trans (f6.mono (fun e he => by show e ≤ 400; omega)), (A5.out.frame f6 (fun e he hc => by have := PD_lo (by omega) e he; omega) (by omega)).mono (by omega), (B5.out.frame f6 (fun e he hc => by have := PD_lo (by omega) e he; omega) (by omega)).mono (by omega), paint_new (Nat.le_refl _), cur, hgc, fun i hi => ?_⟩
      have e : (madeCells (Value.int .u64 0).cells (n * 1)).toList = List.replicate n (.int .u64 0) := by
        rw [show (Value.int .u64 0).cells = #[.int .u64 0] from rfl, toList_madeCells_one, Nat.mul_one]
      rw [e] at h4
      have q : (cur.toList.take (n * 1))[i]? = (List.replicate n (Value.int .u64 0))[i]? := by rw [h4]
      rw [Nat.mul_one, List.getElem?_take, if_pos hi, List.getElem?_replicate, if_pos hi, Array.getElem?_toList] at q
      exact q)
    clear hown hg F5 A5 B5 hi hz0 hz1 hzb
    go_upto_block 0 with fail
    clear hrun
    generalize w5.heap.size = ib at S6 ⊢
    go_cut [] from 20 to 171 (fun wc => ∃ g : Nat → Nat, (∀ i, g i < 256 ^ wd) ∧ LS w va vb ib n wd ea k sa da eA sb db eB 80400 g g g wc)
    case first => as_aux_lemma =>
      --A
      go_wp2_with fail
      go_loopw [20] (fun i wq => ∃ (j : Nat) (g : Nat → Nat), i = .int .i64 (j : Int) ∧ j ≤ 200 ∧ j ≤ len ∧ (∀ i, g i < 256 ^ wd) ∧ LS w va vb ib n wd ea k sa da eA sb db eB (400 + 400 * j) g g g wq) (fun i _ => len - (intOf i).toNat)
      case atStart => exact ⟨0, fun _ => 0, rfl, by omega, by omega, fun _ => Nat.pow_pos (by omega), S6.out⟩
      case round => as_aux_lemma =>
        obtain ⟨j, g, rfl, hj1, hj2, hgb, hS⟩ := hrel
        have SR := Lib.hid hS
        have GB := Lib.hid hgb
        clear hS hgb S6
        go_upto_region 11 with fail
        obtain ⟨b1, hb1⟩ : ∃ b1, decide ((j : Int) < (len : Int)) = b1 := ⟨_, rfl⟩
        obtain ⟨b2, hb2⟩ : ∃ b2, decide ((j : Int) < 200) = b2 := ⟨_, rfl⟩
        obtain ⟨b3, hb3⟩ : ∃ b3, decide ((0 : Int) < (n : Int)) = b3 := ⟨_, rfl⟩
        have HB1 := Lib.hid hb1
        have HB2 := Lib.hid hb2
        have HB3 := Lib.hid hb3
        clear hb1 hb2 hb3
        go_cut [105] from 94 to 105 (fun s wc => s = .bool (b1 && b2 && b3) ∧ wr = wc)
        case first => as_aux_lemma =>
          have hb1 := HB1.out
          have hb2 := HB2.out
          have hb3 := HB3.out
          have hb4 : decide (j < len) = b1 := by rw [← hb1]; exact decide_eq_decide.2 (by omega)
          have hb5 : decide (j < 200) = b2 := by rw [← hb2]; exact decide_eq_decide.2 (by omega)
          have hb6 : decide (0 < n) = b3 := by rw [← hb3]; exact decide_eq_decide.2 (by omega)
          clear HB1 HB2 HB3
          cases b1 <;> cases b2 <;> cases b3
          all_goals
            go_wp2_with fail
            go_meet
            case rel => exact ⟨by first | rfl | simp, by first | rfl | trivial⟩
        case rest => as_aux_lemma =>
          obtain ⟨rfl, rfl⟩ := hcut
          obtain ⟨bb, hbb⟩ : ∃ bb, (b1 && b2 && b3) = bb := ⟨_, rfl⟩
          rw [hbb]
          cases bb with
          | false =>
            clear HB1 HB2 HB3 hbb
            go_wp2_with fail
            go_meet
            case rel => exact ⟨g, GB.out, SR.out.mono (by omega)⟩
          | true =>
            rw [Bool.and_eq_true, Bool.and_eq_true] at hbb
            obtain ⟨⟨q1, q2⟩, q3⟩ := hbb
            have hjl : j < len := by
              have := HB1.out; rw [q1] at this; have := of_decide_eq_true this; omega
            have hjt : j < 200 := by
              have := HB2.out; rw [q2] at this; have := of_decide_eq_true this; omega
            have hn0 : 0 < n := by
              have := HB3.out; rw [q3] at this; have := of_decide_eq_true this; omega
            clear q1 q2 q3
            clear HB1 HB2 HB3
            obtain ⟨b, o, haT, hbl, cK, cM, cX, hX⟩ := OPS.out j hjl
            subst haT
            have OLD := SR.out.old
            have cK := (OLD.cell (p := ⟨b, o + j * 6, none⟩) hbl).trans cK
            have cM := (OLD.cell (p := ⟨b, o + j * 6 + 2, none⟩) hbl).trans cM
            have cX := (OLD.cell (p := ⟨b, o + j * 6 + 4, none⟩) hbl).trans cX
            obtain ⟨kk, hkk, hkn⟩ := vmodP_is (M j) n (by omega) (by omega)
            have z0 : ¬ ((n : Int) = 0) := by omega
            have z1 : ¬ (n = 0) := by omega
            have i1 : (0 : Int) ≤ (j : Int) := by omega
            have i2 : (j : Int) < (len : Int) := by omega
            clear OLD
            go_upto_if 125 with (fail)
            clear hkk z0 z1 cM
            go_cut [22] from 125 to 130 (fun s22 wc => ∃ v : Nat, s22 = .int .u64 (v : Int) ∧ v < 256 ^ wd ∧ wr = wc)
            case first => as_aux_lemma =>
              --A1
              have hw := WD.out
              clear SR GB PA PB WD
              rcases hw with rfl | rfl | rfl | rfl
              · go_wp2_with fail
                go_meet
                case rel => exact ⟨X j % 256, by first | rfl | (simp; done) | (rw [← Int.ofNat_tmod]; rfl), by show _ < 256; omega, by first | rfl | trivial⟩
              · go_wp2_with fail
                go_meet
                case rel => exact ⟨X j % 65536, by first | rfl | (simp; done) | (rw [← Int.ofNat_tmod]; rfl), by show _ < 65536; omega, by first | rfl | trivial⟩
              · go_wp2_with fail
                go_meet
                case rel => exact ⟨X j % 4294967296, by first | rfl | (simp; done) | (rw [← Int.ofNat_tmod]; rfl), by show _ < 4294967296; omega, by first | rfl | trivial⟩
              · go_wp2_with fail
                go_meet
                case rel => exact ⟨X j, rfl, by show _ < 18446744073709551616; omega, by first | rfl | trivial⟩
            case rest => as_aux_lemma =>
              --A2
              obtain ⟨v, rfl, hv, rfl⟩ := hcut
              have HV := Lib.hid hv
              clear hv cX hX
              by_cases hK : K j = 3
              · rw [hK] at cK
                go_wp2_with fail
                refine (SR.out.fillA PA.out (v := v) (by omega) HV.out).mono ?_
                rintro e w7 ⟨rfl, h7⟩
                have S7 := Lib.hid h7
                clear h7 SR cK
                go_wp2_with fail
                refine (S7.out.fillB PB.out (v := v) (by omega) HV.out).mono ?_
                rintro e w8 ⟨rfl, h8⟩
                have S8 := Lib.hid (h8.mono (N' := 400 + 400 * (j + 1)) (by omega))
                clear h8 S7
                go_wp2_with fail
                go_loopw [23] (fun q wq => ∃ (i : Nat) (h : Nat → Nat), q = .int .i64 (i : Int) ∧ i ≤ n ∧ LS w va vb ib n wd ea k sa da eA sb db eB (400 + 400 * (j + 1)) (fun _ => v) (fun _ => v) h wq ∧ ∀ t, t < i → h t = v) (fun q _ => n - (intOf q).toNat)
                case atStart => exact ⟨0, g, rfl, by omega, S8.out, fun t ht => absurd ht (Nat.not_lt_zero _)⟩
                case round =>
                  obtain ⟨i, h, rfl, hi, hL, hh⟩ := hrel
                  have HL := Lib.hid hL
                  have HH := Lib.hid hh
                  clear hL hh S8
                  by_cases hin : i < n
                  · obtain ⟨ci, fi⟩ := HL.out.cell hin
                    have i3 : (0 : Int) ≤ (i : Int) := by omega
                    have i4 : (i : Int) < (n : Int) := by omega
                    have NX := Lib.hid (HL.out.isSet hin v)
                    clear HL
                    go_wp2_with fail
                    go_roundw
                    case rel => exact ⟨i + 1, _, by go_num, by omega, NX.out, fun t ht => by
                      show (if t = i then v else h t) = v
                      by_cases hti : t = i
                      · rw [if_pos hti]
                      · rw [if_neg hti]; exact HH.out t (by omega)⟩
                    case measure => simp [intOf]; omega
                  · obtain rfl : i = n := by omega
                    go_wp2_with fail
                    go_roundw
                    case rel => exact ⟨j + 1, fun _ => v, by go_num, by omega, by omega, fun _ => HV.out, HL.out.congr (fun t ht => HH.out t ht)⟩
                    case measure => simp [intOf]; omega
              · have hK2 : decide (K j = 3) = false := decide_eq_false hK
                obtain ⟨ci, fi⟩ := SR.out.cell hkn
                have i3 : (0 : Int) ≤ (kk : Int) := by omega
                have i4 : (kk : Int) < (n : Int) := by omega
                have NX := Lib.hid (SR.out.isSet hkn v)
                clear SR
                go_upto_region 25 with fail
                clear ci fi cK
                go_wp2_with fail
                refine (NX.out.setA PA.out (v := v) hkn (by omega) HV.out).mono ?_
                rintro e w7 ⟨rfl, h7⟩
                have S7 := Lib.hid h7
                clear h7 NX
                go_wp2_with fail
                refine (S7.out.setB PB.out (v := v) hkn (by omega) HV.out).mono ?_
                rintro e w8 ⟨rfl, h8⟩
                have S8 := Lib.hid (h8.mono (N' := 400 + 400 * (j + 1)) (by omega))
                clear h8 S7
                go_wp2_with fail
                go_roundw
                case rel => exact ⟨j + 1, _, by go_num, by omega, by omega, fun t => by
                  show (if t = kk then v else g t) < 256 ^ wd
                  split
                  · exact HV.out
                  · exact GB.out t, S8.out⟩
                case measure => simp [intOf]; omega
    case rest => as_aux_lemma =>
      obtain ⟨g, hgb, hS⟩ := hcut
      have SR := Lib.hid hS
      have GB := Lib.hid hgb
      clear hS hgb S6 OPS
      go_upto_block 4 with fail
      go_cut [] from 24 to 210 (fun wc => LS w va vb ib n wd ea k sa da eA sb db eB 100000 g g g wc)
      case first => as_aux_lemma =>
        --B
        go_wp2_with fail
        go_loopw [24] (fun i wq => ∃ j : Nat, i = .int .i64 (j : Int) ∧ j ≤ n ∧ LS w va vb ib n wd ea k sa da eA sb db eB (80400 + 16 * j) g g g wq) (fun i _ => n - (intOf i).toNat)
        case atStart => exact ⟨0, rfl, by omega, SR.out⟩
        case round => as_aux_lemma =>
          obtain ⟨j, rfl, hj, hL⟩ := hrel
          have HL := Lib.hid hL
          clear hL SR
          by_cases hjn : j < n
          · go_wp2_with fail
            refine (HL.out.getA PA.out hjn (by omega) (GB.out j)).mono ?_
            rintro e w7 ⟨rfl, h7⟩
            have S7 := Lib.hid h7
            clear h7 HL
            go_wp2_with fail
            refine (S7.out.getB PB.out hjn (by omega) (GB.out j)).mono ?_
            rintro e w8 ⟨rfl, h8⟩
            have S8 := Lib.hid h8
            clear h8 S7
            obtain ⟨ci, fi⟩ := S8.out.cell hjn
            have i3 : (0 : Int) ≤ (j : Int) := by omega
            have i4 : (j : Int) < (n : Int) := by omega
            go_wp2_with fail
            go_roundw
            case rel => exact ⟨j + 1, by go_num, by omega, S8.out.mono (by omega)⟩
            case measure => simp [intOf]; omega
          · go_wp2_with fail
            go_meet
            case rel => exact HL.out.mono (by omega)
      case rest => as_aux_lemma =>
        --C
        have S1 := Lib.hid hcut
        clear hcut SR
        go_wp2_with fail
        refine (S1.out.saveA PA.out (by omega)).mono ?_
        rintro e w7 ⟨V1, q1, rfl, h7⟩
        have S7 := Lib.hid h7
        have Q1 := Lib.hid q1
        clear h7 q1 S1
        go_wp2_with fail
        refine (S7.out.saveB PB.out (by omega)).mono ?_
        rintro e w8 ⟨V2, q2, rfl, h8⟩
        rw [← vn_read Q1.out q2]
        obtain ⟨S, hSS⟩ : ∃ S : ByteArray, S = ⟨(readL V1 2 512 0 (n * wd)).toArray⟩ := ⟨_, rfl⟩
        have HSL : Hid (S.data.toList = readL V1 2 512 0 (n * wd)) := Lib.hid (by rw [hSS])
        have hSs : S.size = n * wd := by
          have q : S.data.toList.length = S.size := Array.length_toList
          rw [← q, HSL.out, readL_len]
        have HSS := Lib.hid hSS
        rw [← hSS]
        obtain ⟨x8, f8, a8, -, -⟩ := h8
        have F8 := Lib.hid f8
        have A8 := Lib.hid a8
        clear q2 f8 a8 S7 PA PB hSS
        go_wp2_with fail
        refine (space_any x8 300 320 330 (by omega) (by omega) (by omega) w8 40 2 1 (by omega) (by omega) (by omega) (by omega)).mono ?_
        rintro e w9 ⟨sc, dc, eC, x9, Vc, rfl, f9, v9, e9⟩
        have c9 : ∀ e, S2 300 320 330 e → 300 ≤ e ∧ e ≤ 331 := fun e he => by
          rcases he with he | he
          · have := PC_lo (by omega) e he; omega
          · have := he.1; have := he.2; omega
        have F9 := Lib.hid (F8.out.trans (f9.mono (D := WQ) (fun e he => by have := c9 e he; show e ≤ 400; omega)))
        have A9 := Lib.hid (A8.out.frame f9 (fun e he hc => by have := PD_lo (by omega) e he; have := c9 e hc; omega) (fun q => by have := c9 _ q; omega))
        have V9 := Lib.hid v9
        have E9 := Lib.hid e9
        obtain ⟨ea2, he2, he21, he22⟩ := ea_of WD.out (m := 2) (by omega)
        obtain ⟨k2, hk2⟩ : ∃ k2, max 1 ((n + ea2 - 1) / ea2) = k2 := ⟨_, rfl⟩
        have hk25 : k2 ≤ 15 := by rw [← hk2]; exact k_small hn2 he21
        have PU := Lib.hid (PR.of (c0 := 300) (d0 := 320) (v0 := 340) (t0 := 341) (nb := 40) ⟨by omega, by omega, by omega⟩ WD.out he2 (by omega) hk2 (by omega) (by omega))
        clear f9 v9 e9 F8 A8 he2 hk2 c9
        go_wp2_with fail
        refine (VX.made 300 320 330 340 341 x9 w9 n wd ea2 k2 sc dc eC 2 40 Vc PU.out V9.out E9.out (by omega) (by omega) (fun h => by have := h.2; omega) (fun h => by have := h.2; omega) (by omega)).mono ?_
        rintro e w10 ⟨vu, x10, rfl, f10, u10⟩
        have c10 : ∀ e, NC 300 320 330 341 340 e → 300 ≤ e ∧ e ≤ 341 := fun e he => by
          rcases he with he | he | he | he
          · have := PC_lo (by omega) e he; omega
          · have := he.1; have := he.2; omega
          · omega
          · omega
        have F10 := Lib.hid (F9.out.trans (f10.mono (D := WQ) (fun e he => by have := c10 e he; show e ≤ 400; omega)))
        have A10 := Lib.hid (A9.out.frame f10 (fun e he hc => by have := PD_lo (by omega) e he; have := c10 e hc; omega) (fun q => by have := c10 _ q; omega))
        have U10 := Lib.hid u10
        clear f10 u10 F9 A9 V9 E9 c10
        have hw8 : wd ≤ 8 := by rcases WD.out with h | h | h | h <;> omega
        obtain ⟨pw, hpw⟩ : ∃ pw, n * wd = pw := ⟨_, rfl⟩
        have hpl : pw ≤ 7200 := by rw [← hpw]; have := Nat.mul_le_mul (show n ≤ 900 by omega) hw8; omega
        have ep : IntKind.i64.wrap ((n : Int) * (wd : Int)) = (pw : Int) := by rw [← Int.natCast_mul, hpw]; exact IntWalk.i64_in _ (by omega)
        rw [hpw] at hSs
        clear hpw
        go_wp2_with fail
        refine (U10.out.load PU.out (text := S) Q1.out HSL.out (by omega)).mono ?_
        rintro e w11 ⟨rfl, x11, f11, u11⟩
        have c11 : ∀ e, GC 300 320 341 e → 300 ≤ e ∧ e ≤ 341 := fun e he => by
          rcases he with he | he
          · have := PC_lo (by omega) e he; omega
          · omega
        have F11 := Lib.hid (F10.out.trans (f11.mono (D := WQ) (fun e he => by have := c11 e he; show e ≤ 400; omega)))
        have A11 := Lib.hid (A10.out.frame f11 (fun e he hc => by have := PD_lo (by omega) e he; have := c11 e hc; omega) (fun q => by have := c11 _ q; omega))
        have U11 := Lib.hid u11
        clear f11 u11 F10 A10 U10 c11
        go_wp2_with fail
        refine (U11.out.save PU.out (by omega)).mono ?_
        rintro e w12 ⟨V3, q3, rfl, x12, f12, -⟩
        rw [← vn_read Q1.out q3, ← HSS.out]
        have c12 : ∀ e, RC 300 320 341 e → 300 ≤ e ∧ e ≤ 342 := fun e he => by
          rcases he with he | he | he
          · have := PC_lo (by omega) e he; omega
          · omega
          · omega
        have F12 := Lib.hid (F11.out.trans (f12.mono (D := WQ) (fun e he => by have := c12 e he; show e ≤ 400; omega)))
        have A12 := Lib.hid (A11.out.frame f12 (fun e he hc => by have := PD_lo (by omega) e he; have := c12 e hc; omega) (fun q => by have := c12 _ q; omega))
        clear f12 q3 F11 A11 U11 c12 ep
        go_wp2_with fail
        refine A12.out.stats.mono ?_
        rintro e w13 ⟨⟨a1, a2, a3, a4, a5, rfl⟩, hb13⟩
        have f13 : Fr x12 (paint x12 w12.heap.size 60) (fun e => e = 60) w12 w13 := Fr.of_below hb13 rfl
        have F13 := Lib.hid (F12.out.trans (f13.mono (D := WQ) (fun e he => by show e ≤ 400; omega)))
        have hf5 := stats_f5 a1 a2 a3 a4 a5 w13
        have A13 := Lib.hid (A12.out.frame f13 (fun e he hc => by have := PD_lo (by omega) e he; omega) (by omega))
        clear f13 hb13 F12 A12
        go_wp2_with fail
        refine A13.out.stats.mono ?_
        rintro e w14 ⟨⟨b1, b2, b3, b4, b5, rfl⟩, hb14⟩
        have B14 := Lib.hid hb14
        have hf6 := stats_f6 b1 b2 b3 b4 b5 w14
        clear hf5
        clear hb14 A13
        go_wp2_with fail
        go_ret
        have bf : Below w.heap.size w w13 := F13.out.below_all (fun b _ hC => by have : (1000 : Nat) ≤ 400 := hC; omega)
        exact ⟨rfl, bf.trans (B14.out.mono bf.size)⟩

end Go.Proofs.Ytbgbomlmgkgkoaa.vc
