/- The proof of the statement PoolSafeSaid: the walk of the law (another text) laid into the row, for every input. -/
import Derived.Test.YtbgbomlmgkgkoaaPoJ
import Derived.Test.YtbgbomlmgkgkoaaPoU
import Derived.WalkKit
import Derived.ProofKit
import Derived.OpenShut
import Derived.ShutString
import Derived.ChangeOld
import Derived.Below
import Derived.SizedLaws
namespace Go.Proofs.Ytbgbomlmgkgkoaa.poolSafe
open Go.ChangeShapes Go.WideShapes Go.ChangeAt Go.RowKit
set_option linter.unusedVariables false

theorem own : ownKnob Try.prog.godebug = none := by kernel_rfl
theorem laidOut : laidOutB Try.prog = true := by kernel_rfl

theorem c_crash : Try.prog.cellsOf 47 = 3 := by kernel_rfl
theorem c_ints : Try.prog.cellsOf 45 = 1 := by kernel_rfl
theorem c_u8 : Try.prog.cellsOf 5 = 1 := by kernel_rfl
theorem b_int : Try.prog.bytesOf 3 = 8 := by kernel_rfl
set_option maxRecDepth 100000 in
/-- a list of places that came in -/
theorem open_keep {H : Type} {enc : TypeId × Value → H} {w : World} {fuel : Nat} {v : Value} {x : DataW H × List MemPlace} (h : DataW.trod enc Try.prog w 0 (fun _ => true) true fuel 45 [v] = some x) (hz : ∀ n ∈ x.1.weights Try.prog 45, n ≤ reachBytes) : arcI.KArg w v := by
  rcases Deep.open_slice1 Try.underlying45 arcI.c_int h with ⟨hcs, _⟩ | ⟨a, len, cap, m, n, V, D, Pl, hcs, _, hl, hm, hmm, rfl, hx⟩
  · obtain rfl : v = .slice none 0 0 := by simpa using hcs
    exact .inl ⟨none, 0, rfl⟩
  · obtain rfl : v = .slice (some a) len cap := by simpa using hcs
    by_cases hl0 : len = 0
    · subst hl0; exact .inl ⟨_, _, rfl⟩
    have hm2 : m = cap := by simpa using hmm
    have hw := hz _ (by
      rw [DataW.weights, Try.underlying45]
      exact List.mem_cons_self)
    have hw2 : len * 8 ≤ 140737488355328 := by
      rw [b_int, List.length_map, List.length_range] at hw
      have := reachBytes_lt
      have e : (2 : Nat) ^ 47 = 140737488355328 := by decide
      have h3 : len * 8 ≤ (len + ((List.range (m - len)).map fun j => D (len + j)).length) * 8 := Nat.mul_le_mul_right _ (Nat.le_add_right _ _)
      omega
    have hint : ∀ i, i < len → ∃ z, V i = .int .i64 z := fun i hi => arcI.int_of_trod Try.underlying3 (hx i (by omega)).2
    obtain ⟨Z, hZ⟩ := Deep.choose_lt hint
    obtain ⟨b, o, sp⟩ := a
    have h0 := (hx 0 (by omega)).1
    have hsp : sp = none := by
      have := World.cell?_spot h0
      simpa [Addr.add] using this
    subst hsp
    have hcell : ∀ i, i < len → w.cell? ⟨b, o + i, none⟩ = some (.int .i64 (Z i)) := fun i hi => by
      have q := (hx i (by omega)).1
      rw [Addr.add_lit, hZ i hi] at q
      exact q
    exact .inr ⟨b, o, len, cap, (List.range len).map Z, rfl, by simp, by omega, hw2, World.block_lt_of_cell? _ _ (hcell 0 (by omega)), fun j hj => by
      have hj' : j < len := by simpa using hj
      rw [hcell j hj']
      simp [hj']⟩
set_option maxRecDepth 100000 in
theorem open_crash {H : Type} {enc : TypeId × Value → H} {w : World} {b0 : Nat} {r : Reach} {v : Value} {d : DataW H} {ps : List MemPlace} (hv : Value.okWide Try.prog w r b0 47 v) (hd : DataW.Trod enc Try.prog w 0 (fun _ => true) true 47 v d ps) (hz : ∀ n ∈ d.weights Try.prog 47, n ≤ reachBytes) :
    ∃ kv, ∃ tn mk : Int, v = .agg #[kv, .int .i64 tn, .int .u8 mk] ∧ arcI.KArg w kv := by
  obtain ⟨cs, rfl, hzz⟩ := okWide_struct Try.underlying47 hv
  rw [c_crash] at hzz
  obtain ⟨fuel, hf⟩ := hd
  obtain ⟨l⟩ := cs
  match l, hzz with
  | [v0, v1, v2], _ =>
    obtain ⟨xs, n, _, hx, _, hlen, hg⟩ := DataW.trod_struct Try.underlying47 hf
    obtain ⟨rfl, rfl⟩ := Prod.mk.inj hx
    match xs, hlen with
    | [y0, y1, y2], _ =>
      have h0 := hg 0 _ rfl
      have h1 := hg 1 _ rfl
      have h2 := hg 2 _ rfl
      simp [c_ints, arcI.c_int, c_u8, Value.cells] at h0 h1 h2
      obtain ⟨m1, rfl⟩ := arcI.int_of_trod Try.underlying3 h1
      obtain ⟨m2, rfl⟩ := arcI.int_of_trod Try.underlying5 h2
      refine ⟨v0, m1, m2, rfl, open_keep h0 (fun k hk => hz k ?_)⟩
      rw [DataW.weights, Try.underlying47]
      exact List.mem_append_left _ hk

set_option maxRecDepth 100000 in
theorem lifted (os : Os) (started : os.Started) (H : Type) (enc : TypeId × Value → H) :
    ReturnsInHanded {} Try.checked os 4 .any (Rows.poolSafeSpec.pre6 enc Try.prog Try.f4 Rows.poolSafeRow.domain false) (Rows.poolSafeSpec.post enc Try.prog Try.f4 false true false false) := by
  refine returnsInHanded_of_change_sized (C := Try.checked) own started (by kernel_rfl) Try.func4
    (ChangeSpec.witness6 (enc := enc) (C := Try.checked) false ⟨#[], #[.int .i64 0, .slice none 0 0, .slice none 0 0, .agg #[.slice none 0 0, .int .i64 0, .int .u8 0]], []⟩ 8 (by kernel_rfl) (by kernel_rfl) (by kernel_rfl) (by kernel_rfl)) ?_
  intro W base args ds gs before hval0 hW hcnd hsz _
  have hval : ∀ (j : Nat) t v, Try.f4.params[j]? = some t → args[j]? = some v → Value.okWide Try.prog W .any base t v := hval0
  have hW' := hW
  obtain ⟨p, q, hA0, hV, rfl, hfz, hnd⟩ := hW
  have hA : DataW.TrodAll enc Try.prog W 0 (fun _ => true) true Try.f4.params.toList args.toList ds p := hA0
  rw [Try.params4] at hA hval
  obtain ⟨v0, vs0, d0, ds0, p0, q0, hargs, rfl, rfl, h0, r0⟩ := trodAll_cons hA
  obtain ⟨v1, vs1, d1, ds1, p1, q1, rfl, rfl, rfl, h1, r1⟩ := trodAll_cons r0
  obtain ⟨v2, vs2, d2, ds2, p2, q2, rfl, rfl, rfl, h2, r2⟩ := trodAll_cons r1
  obtain ⟨v3, vs3, d3, ds3, p3, q3, rfl, rfl, rfl, h3, r3⟩ := trodAll_cons r2
  obtain ⟨rfl, rfl, rfl⟩ := trodAll_nil r3
  obtain rfl : args = #[v0, v1, v2, v3] := by cases args; simp_all
  obtain ⟨rfl, rfl⟩ := trodVars_none hV
  obtain ⟨a0, rfl, rfl, rfl, w0⟩ := open_int Try.underlying3 (hval 0 3 v0 rfl rfl) h0
  obtain ⟨a1, len1, cap1, rfl⟩ := okWide_slice Try.underlying22 (hval 1 22 v1 rfl rfl)
  obtain ⟨a2, len2, cap2, rfl⟩ := okWide_slice Try.underlying22 (hval 2 22 v2 rfl rfl)
  have k1 := h1
  have k2 := h2
  have k3 := h3
  have lt1 : ∀ x ∈ p1, x.block < W.heap.size := by obtain ⟨m, hm⟩ := k1; exact DataW.trod_lt m _ _ _ hm
  have lt2 : ∀ x ∈ p2, x.block < W.heap.size := by obtain ⟨m, hm⟩ := k2; exact DataW.trod_lt m _ _ _ hm
  have lt3 : ∀ x ∈ p3, x.block < W.heap.size := by obtain ⟨m, hm⟩ := k3; exact DataW.trod_lt m _ _ _ hm
  obtain ⟨K, M, T, hF, hn⟩ := arcI.pops_open h1
  obtain ⟨K2, M2, T2, hF2, hn2⟩ := arcI.pops_open h2
  obtain ⟨kv, tn, mk, hv3, hkv⟩ := open_crash (hval 3 47 v3 rfl rfl) h3 (fun n hn => by
    have := List.all_eq_true.1 hsz n (DataW.weights_mem_each (j := 3) rfl rfl n hn)
    simpa using this)
  subst hv3
  clear hA0 hval0
  refine (arcI.safe_walk a0 a1 len1 cap1 hn K M T a2 len2 cap2 hn2 K2 M2 T2 kv tn mk W hF hF2 hkv).mono fun e W' ⟨he, bel⟩ => ?_
  subst he
  exact ⟨_, rfl, _, _, _, [], _, [], hW', trodAll_mk1 (shut_bool Try.underlying4 _), (trodAll_cons_mk (shut_int Try.underlying3 w0) (trodAll_cons_mk (Below.trod laidOut (by kernel_rfl) (of_decide_eq_true (by kernel_rfl)) k1 bel lt1) (trodAll_cons_mk (Below.trod laidOut (by kernel_rfl) (of_decide_eq_true (by kernel_rfl)) k2 bel lt2) (trodAll_cons_mk (Below.trod laidOut (by kernel_rfl) (of_decide_eq_true (by kernel_rfl)) k3 bel lt3) trodAll_mk0)))), rfl, bel.frame _, fun h => by cases h⟩

theorem over : Rows.poolSafeRow.holds Try.pinned (OpenSpec.ofChange Rows.poolSafeSpec) :=
  OpenClaim.holds_of_wide 4 Try.f4 rfl rfl rfl rfl rfl rfl rfl ⟨rfl, rfl, rfl, rfl, rfl⟩ rfl rfl rfl rfl rfl (by kernel_rfl) Try.func4 (by kernel_rfl)
    (of_decide_eq_true (by kernel_rfl)) (by unfold Func.isWrapper; first | (rw [if_pos (by decide +kernel)]; kernel_rfl) | (rw [if_neg (by decide +kernel)]; exact ⟨rfl, rfl⟩))
    (fun os started H enc _ => lifted os started H enc)

/-- ████ THE STATEMENT ████ -/
theorem proved : Rows.PoolSafeSaid :=
  over
end Go.Proofs.Ytbgbomlmgkgkoaa.poolSafe
