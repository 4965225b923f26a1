/- The card of BvPacks: what the row's list gives (two package-level variables of two cells each), the walk (another text), the row, the card. -/
import Derived.Test.YtflnpcgnenhogaaGreatDoorBk21
import Derived.Test.YtflnpcgnenhogaaGreatDoorBk30
import Derived.Test.YtflnpcgnenhogaaGreatDoorBk33
import Derived.Test.YtflnpcgnenhogaaGreatDoorBk32
import Derived.Test.YtflnpcgnenhogaaGreatDoorCards
import Derived.Test.YtflnpcgnenhogaaGreatDoorTie
import Derived.WalkKit
import Derived.ProofKit
import Derived.OpenShut
import Derived.Deep.DeepHandedRow
import Derived.ChangeSame
import Derived.Lib.LaidTab
import Derived.ShutString
import Derived.ChangeOld
import Derived.ChangeSlices
import Derived.ChangeMaps5
import Derived.Below
import Derived.SizedLaws
namespace Go.Proofs.YtflnpcgnenhogaaGreatDoor.bvPacks
open Go.ChangeShapes Go.WideShapes Go.ChangeAt Go.RowKit
open Go.ChangeMaps (open_string shut_string)

theorem laidOut : laidOutB Tryz.prog = true := by kernel_rfl
theorem own : ownKnob Tryz.prog.godebug = none := by kernel_rfl
theorem g0 : Tryz.prog.globalNamed "wattle/list.gamma" = some 0 := by kernel_rfl
theorem g1 : Tryz.prog.globalNamed "wattle/list.unary" = some 1 := by kernel_rfl
theorem t0 : (Tryz.prog.globals[0]?).map (·.type) = some 101 := by kernel_rfl
theorem t1 : (Tryz.prog.globals[1]?).map (·.type) = some 101 := by kernel_rfl
theorem cc : Tryz.prog.cellsOf 101 = 2 := by kernel_rfl
theorem c1 : Tryz.prog.cellsOf 5 = 1 := by kernel_rfl
theorem c8 : Tryz.prog.cellsOf 97 = 1 := by kernel_rfl

set_option maxRecDepth 100000 in
theorem two {W : World} {fuel : Nat} {cs : Array Value} {a b : Int} {p : List MemPlace} (h : DataW.trod (fun _ => ()) Tryz.prog W 0 (fun _ => true) false fuel 101 cs.toList = some (.agg [.lit (.int .u8 a), .lit (.int .u64 b)], p)) : cs = #[.int .u8 a, .int .u64 b] := by
 obtain ⟨y0, y1, n, hx, hl, h0, h1⟩ := trod_struct2 Tryz.underlying101 h
 rw [cc] at hl
 obtain ⟨l⟩ := cs
 match l, hl with
 | [v0, v1], _ =>
  simp only [c1, c8] at h0 h1
  obtain ⟨m0, rfl, rfl⟩ := ls.int_of_trod Tryz.underlying5 h0
  obtain ⟨m1, rfl, rfl⟩ := ls.int_of_trod Tryz.underlying97 h1
  have hx1 : DataW.agg [.lit (.int .u8 a), .lit (.int .u64 b)] = (DataW.agg [.lit (.int .u8 m0), .lit (.int .u64 m1)] : DataW Unit) := congrArg Prod.fst hx
  injection hx1 with hx1
  injection hx1 with hx1 hx2
  injection hx1 with hx1; injection hx1 with _ hx1
  injection hx2 with hx2 _
  injection hx2 with hx2; injection hx2 with _ hx2
  rw [hx1, hx2]

theorem lt_row {W : World} {g : Nat} {o : Obj} (h : W.heap[g]? = some o) : g < W.heap.size := by
 obtain ⟨hl, _⟩ := Array.getElem?_eq_some_iff.1 h
 exact hl
theorem var_block {W : World} {name : String} {g : Nat} {cs : Array Value} (hg : Tryz.prog.globalNamed name = some g) (h : W.var? Tryz.prog name = some cs) : ∃ e z, W.heap[g]? = some (.cells cs e z) := by
 unfold World.var? at h
 rw [hg] at h
 simp only [Option.bind_some] at h
 split at h
 ·rename_i e z hh
  injection h with h; subst h
  exact ⟨_, _, hh⟩
 ·cases h

theorem cell_laid {W : World} {g j : Nat} {cs : Array Value} {e : TypeId} {z : Nat × Nat} {v : Value} (h : W.heap[g]? = some (.cells cs e z)) (hv : cs[j]? = some v) : W.cell? ⟨g, j, none⟩ = some v := by
 rw [cell_of_row _ _ _ _ _ _ h]; exact hv
/-- WHAT THE ROW's LIST GIVES: the two variables' cells. -/
theorem laid {W : World} (h : laidMetH Tryz.prog Rows.bvPacksRow.laid W) : (∃ e z, W.heap[0]? = some (.cells #[.int .u8 1, .int .u64 0] e z)) ∧ ∃ e z, W.heap[1]? = some (.cells #[.int .u8 0, .int .u64 0] e z) := by
 have h' : laidMet Tryz.prog [("wattle/list.gamma", .agg [.lit (.int .u8 1), .lit (.int .u64 0)]), ("wattle/list.unary", .agg [.lit (.int .u8 0), .lit (.int .u64 0)])] W := h
 obtain ⟨ps, ⟨g, t, cs, fuel, p, q, hg, ht, hvar, hd, ⟨g', t', cs', fuel', p', q', hg', ht', hvar', hd', _, _⟩, _⟩, _⟩ := h'
 obtain rfl := Option.some.inj (g0.symm.trans hg)
 obtain rfl := Option.some.inj (t0.symm.trans ht)
 obtain rfl := Option.some.inj (g1.symm.trans hg')
 obtain rfl := Option.some.inj (t1.symm.trans ht')
 rw [two hd] at hvar
 rw [two hd'] at hvar'
 exact ⟨var_block g0 hvar, var_block g1 hvar'⟩

set_option maxRecDepth 100000 in
theorem contract (H : Type) (enc : TypeId × Value → H) (W : World) (base : Nat) (args : Array Value) (ds gs : List (DataW H)) (before : List MemPlace)
  (hval0 : ∀ (j : Nat) t v, Tryz.f6.params[j]? = some t → args[j]? = some v → Value.okWide Tryz.prog W .any base t v)
  (hW : DataW.Whole enc Tryz.prog Tryz.f6.params.toList Rows.bvPacksSpec.vars false W args.toList ds gs before) (hsz0 : (DataW.weightsEach Tryz.prog (Tryz.f6.params.toList ++ (OpenSpec.ofChange Rows.bvPacksSpec).bare.plain.varTypes Tryz.prog) (ds ++ gs)).all (· ≤ reachBytes) = true) (hL : laidMetH Tryz.prog Rows.bvPacksRow.laid W) :
  Calls Tryz.prog 6 args W fun e W' => ∃ v, e = .returned v ∧ Rows.bvPacksSpec.post enc Tryz.prog Tryz.f6 false true false false W args v W' := by
 have hval : ∀ (j : Nat) t v, Tryz.f6.params[j]? = some t → args[j]? = some v → Value.okWide Tryz.prog W .any base t v := hval0
 have hW' := hW
 obtain ⟨p, q, hA0, hV, rfl, hfz, hnd⟩ := hW
 have hA : DataW.TrodAll enc Tryz.prog W 0 (fun _ => true) true Tryz.f6.params.toList args.toList ds p := hA0
 rw [Tryz.params6] at hA hval
 obtain ⟨v0, vs0, d0, ds0, p0, q0, hargs, rfl, rfl, h0, r0⟩ := trodAll_cons hA
 obtain ⟨v1, vs1, d1, ds1, p1, q1, rfl, rfl, rfl, h1, r1⟩ := trodAll_cons r0
 obtain ⟨v2, vs2, d2, ds2, p2, q2, rfl, rfl, rfl, h2, r2⟩ := trodAll_cons r1
 obtain ⟨rfl, rfl, rfl⟩ := trodAll_nil r2
 obtain rfl : args = #[v0, v1, v2] := by cases args; simp_all
 obtain ⟨rfl, rfl⟩ := trodVars_none hV
 rw [Tryz.params6] at hsz0
 obtain ⟨a0, len0, cap0, rfl⟩ := okWide_slice Tryz.underlying54 (hval 0 54 v0 rfl rfl)
 obtain ⟨pw, pd, pi, pz, pc, rfl⟩ := ls.bp_open (hval 1 _ v1 rfl rfl) h1
 obtain ⟨ad, dn, dc, rfl⟩ := okWide_slice Tryz.underlying26 (hval 2 26 v2 rfl rfl)
 have k2 := h2
 have lt2 : ∀ x ∈ p2, x.block < W.heap.size := by obtain ⟨m, hm⟩ := k2; exact DataW.trod_lt m _ _ _ hm
 have k0 := h0
 have lt0 : ∀ x ∈ p0, x.block < W.heap.size := by obtain ⟨m, hm⟩ := k0; exact DataW.trod_lt m _ _ _ hm
 have k1 := h1
 have lt1 : ∀ x ∈ p1, x.block < W.heap.size := by obtain ⟨m, hm⟩ := k1; exact DataW.trod_lt m _ _ _ hm
 have hs : ∀ n ∈ d0.weights Tryz.prog 54, n ≤ reachBytes := fun n hn => by
  have := List.all_eq_true.1 hsz0 n (DataW.weights_mem_each (j := 0) rfl rfl n hn)
  simpa using this
 obtain ⟨L, rfl, hc, hl9, hl, hls⟩ := ls.lists_open h0 hs
 obtain ⟨⟨e0, z0, g0⟩, e1, z1, g1⟩ := laid hL
 clear hA0 hval0
 have AW : ∀ W2, Below W.heap.size W W2 → Calls Tryz.prog 32 #[] W2 fun e w' => e = .returned (.bool true) ∧ Below W2.heap.size W2 w' :=
  fun W2 k => ev.bv_awake W2 e0 e1 _ _ ((k.block _ (lt_row g0)).trans g0) (ev.pairRow_rel rfl rfl) ((k.block _ (lt_row g1)).trans g1) (ev.pairRow_rel rfl rfl)
 have GG : ls.GL W := ⟨cell_laid g0 rfl, cell_laid g0 rfl, cell_laid g1 rfl, cell_laid g1 rfl⟩
 refine (ls.bvpacks_any W GG AW a0 L cap0 pw pd pi pz pc hl hls hc hl9 ad dn dc (ls.bools_open h2)).mono fun e W' ⟨he, bel⟩ => ?_
 subst he
 exact ⟨_, rfl, _, _, _, [], _, [], hW', trodAll_mk1 (shut_bool Tryz.underlying4 _), (trodAll_cons_mk (Below.trod laidOut (by kernel_rfl) (of_decide_eq_true (by kernel_rfl)) k0 bel lt0) (trodAll_cons_mk (Below.trod laidOut (by kernel_rfl) (of_decide_eq_true (by kernel_rfl)) k1 bel lt1) (trodAll_cons_mk (Below.trod laidOut (by kernel_rfl) (of_decide_eq_true (by kernel_rfl)) k2 bel lt2) trodAll_mk0))), rfl, bel.frame _, fun h => by cases h⟩

/-- A WORLD FOR THE WITNESS: the settled one, the two variables holding what their initialisers lay. -/
noncomputable def laidWorld (os : Os) : World :=
 { World.holding Tryz.prog os ⟨#[], #[], []⟩ with heap := ((World.holding Tryz.prog os ⟨#[], #[], []⟩).heap.modify 0 (fun x => match x with | .cells _ t frozen => .cells #[.int .u8 1, .int .u64 0] t frozen | o => o)).modify 1 (fun x => match x with | .cells _ t frozen => .cells #[.int .u8 0, .int .u64 0] t frozen | o => o) }
theorem laid_met (os : Os) : laidMet Tryz.prog Rows.bvPacksRow.laid ((laidWorld os).forCall (fun _ _ => 0) ⟨#[], #[.slice none 0 0, .agg #[.int .i64 0, .int .i64 0, .int .i64 0, .int .i64 0, .int .i64 0], .slice none 0 0], []⟩).memory :=
 laidMet_of_run' 8 (by kernel_rfl) (by kernel_rfl)
theorem reads (os : Os) {H : Type} (enc : TypeId × Value → H) : ∃ places, DataW.whole enc Tryz.prog ((laidWorld os).forCall (fun _ _ => 0) ⟨#[], #[.slice none 0 0, .agg #[.int .i64 0, .int .i64 0, .int .i64 0, .int .i64 0, .int .i64 0], .slice none 0 0], []⟩).memory Tryz.f6.params.toList Rows.bvPacksSpec.vars false (#[.slice none 0 0, .agg #[.int .i64 0, .int .i64 0, .int .i64 0, .int .i64 0, .int .i64 0], .slice none 0 0] : Array Value).toList 8 = some ([.nil, .agg [.lit (.int .i64 0), .lit (.int .i64 0), .lit (.int .i64 0), .lit (.int .i64 0), .lit (.int .i64 0)], .nil], [], places) :=
 ⟨[], by kernel_rfl⟩

set_option maxRecDepth 100000 in
theorem lifted (os : Os) (started : os.Started) (H : Type) (enc : TypeId × Value → H) (F : Stop.Interp) :
  ReturnsInHanded {} Tryz.checked os 6 .any ((OpenSpec.ofChange Rows.bvPacksSpec).preRow enc Tryz.prog Tryz.f6 Rows.bvPacksRow.domain false Rows.bvPacksRow.laid) (((OpenSpec.ofChange Rows.bvPacksSpec).at F).post enc Tryz.prog Tryz.f6 false true false false) := by
 obtain ⟨places, hx⟩ := reads os enc
 refine returnsInHanded_of_row (C := Tryz.checked) (s := OpenSpec.ofChange Rows.bvPacksSpec) own started (by kernel_rfl) Tryz.func6
  (witness_row_at (enc := enc) (C := Tryz.checked) false (laidWorld os) #[.slice none 0 0, .agg #[.int .i64 0, .int .i64 0, .int .i64 0, .int .i64 0, .int .i64 0], .slice none 0 0] rfl (by kernel_rfl) (by kernel_rfl) (by kernel_rfl)
   (OpenSpec.preRow_of_cond 8 hx (by kernel_rfl) (fun k hk => by cases hk) (by kernel_rfl) (laid_met os))) ?_
 intro W base args ds gs before hval hW _ _ hsz hL _ _
 exact contract H enc W base args ds gs before hval hW hsz hL

theorem and_mk {a b : Bool} (h : a = true) (h' : b = true) : (a && b) = true := by rw [h, h']; rfl
set_option maxHeartbeats 20000000 in
set_option maxRecDepth 100000 in
theorem closed : joinedFacts Tryz.pinned.checked.prog 6 Tryz.f6 (OpenSpec.ofChange Rows.bvPacksSpec).bare Rows.bvPacksRow = true := by
 unfold joinedFacts
 repeat' (with_reducible apply and_mk)
 all_goals (as_aux_lemma => kernel_rfl)
theorem inst : Tryz.f6.isInstance Tryz.pinned.checked.prog Rows.bvPacksRow.origin Rows.bvPacksRow.targs := of_decide_eq_true (by kernel_rfl)

theorem said : Rows.BvPacksSaid :=
 OpenClaim.holds_of_cond 6 Tryz.f6 rfl rfl rfl rfl rfl rfl rfl ⟨rfl, rfl, rfl, rfl, rfl⟩ rfl rfl rfl rfl rfl (by kernel_rfl) Tryz.func6 closed
  inst (by unfold Func.isWrapper; first | (rw [if_pos (by decide +kernel)]; kernel_rfl) | (rw [if_neg (by decide +kernel)]; exact ⟨rfl, rfl⟩))
  (fun os started H enc _ F => by rw [OpenClaim.pre_eq_preRow]; exact lifted os started H enc F)

theorem plain (f : FuncId) (fn : Func) (hf : Tryz.pinned.checked.prog.funcNamed "wattle/wattlelaw14.BvPacks" = some f) (hfn : Tryz.pinned.checked.prog.funcs[f]? = some fn) :
  false = Tryz.pinned.checked.prog.looks [] ∧ ∀ (j : Nat) t, fn.params[j]? = some t → Tryz.pinned.checked.prog.wantsStandIn t = false := by
 obtain rfl : f = 6 := Option.some.inj ((show Tryz.prog.funcNamed "wattle/wattlelaw14.BvPacks" = some 6 by kernel_rfl).symm.trans hf) |>.symm
 obtain rfl : fn = Tryz.f6 := (Option.some.inj (Tryz.func6.symm.trans hfn)).symm
 refine ⟨by kernel_rfl, fun j t ht => ?_⟩
 rw [Tryz.params6] at ht
 have hm := Array.mem_of_getElem? ht
 simp only [List.mem_toArray, List.mem_cons, List.not_mem_nil, or_false] at hm
 rcases hm with rfl | rfl | rfl
 ·exact (show Tryz.prog.wantsStandIn 54 = false by kernel_rfl)
 ·exact (show Tryz.prog.wantsStandIn 56 = false by kernel_rfl)
 ·exact (show Tryz.prog.wantsStandIn 26 = false by kernel_rfl)

/-- ████ THE CARD ████ -/
theorem card : Rows.BvPacksCardSaid :=
 Claim7.holds_tied_plain_at .later [] _ _ _ _ said (fun _ h => by cases h) (by kernel_rfl) (fun _ h => by cases h) bvPacks_row_tie rfl ⟨rfl, rfl⟩ (by kernel_rfl) rfl plain (by kernel_rfl)
end Go.Proofs.YtflnpcgnenhogaaGreatDoor.bvPacks
