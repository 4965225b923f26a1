/- The card of PackHeads: what the row's list gives (two package-level variables of two cells each), the walk (another text), the row, the card. -/
import Derived.Test.YthaicpbdlhkkkaaGreatDoorEvPackHeadsW
import Derived.Test.YthaicpbdlhkkkaaGreatDoorPkR
import Derived.Test.YthaicpbdlhkkkaaGreatDoorCards
import Derived.Test.YthaicpbdlhkkkaaGreatDoorTie
import Derived.WalkKit
import Derived.ProofKit
import Derived.OpenShut
import Derived.Deep.DeepHandedRow
import Derived.ChangeSame
import Derived.Lib.LaidTab
import Derived.ShutString
import Derived.ChangeOld
import Derived.ChangeSlices
import Derived.ChangeMaps5
import Derived.Below
import Derived.SizedLaws
namespace Go.Proofs.YthaicpbdlhkkkaaGreatDoor.packHeads
open Go.ChangeShapes Go.WideShapes Go.ChangeAt Go.RowKit
open Go.ChangeMaps (open_string shut_string)

theorem laidOut : laidOutB Tryz.prog = true := by kernel_rfl
theorem own : ownKnob Tryz.prog.godebug = none := by kernel_rfl
theorem g0 : Tryz.prog.globalNamed "wattle/list.gamma" = some 0 := by kernel_rfl
theorem g1 : Tryz.prog.globalNamed "wattle/list.unary" = some 1 := by kernel_rfl
theorem t0 : (Tryz.prog.globals[0]?).map (·.type) = some 145 := by kernel_rfl
theorem t1 : (Tryz.prog.globals[1]?).map (·.type) = some 145 := by kernel_rfl
theorem cc : Tryz.prog.cellsOf 145 = 2 := by kernel_rfl
theorem c1 : Tryz.prog.cellsOf 5 = 1 := by kernel_rfl
theorem c8 : Tryz.prog.cellsOf 51 = 1 := by kernel_rfl

theorem int_of_trod {H : Type} {enc : TypeId × Value → H} {P : Program} {w : World} {base : Nat} {sp : Nat → Bool} {held : Bool} {fuel : Nat} {t : TypeId} {k : IntKind} {c : Value} {y : DataW H × List MemPlace}
    (ht : P.underlying t = some (.int k)) (h : DataW.trod enc P w base sp held fuel t [c] = some y) : ∃ n, c = .int k n ∧ y = (.lit (.int k n), []) := by
  cases fuel with
  | zero => simp [DataW.trod] at h
  | succ fuel =>
    cases c <;> simp [DataW.trod, ht] at h
    rename_i k' n
    obtain ⟨⟨rfl, _⟩, rfl⟩ := h
    exact ⟨n, rfl, rfl⟩

theorem ch : Tryz.prog.cellsOf 25 = 8 := by kernel_rfl
theorem cp : Tryz.prog.cellsOf 23 = 5 := by kernel_rfl
theorem ci : Tryz.prog.cellsOf 3 = 1 := by kernel_rfl
set_option maxRecDepth 100000 in
theorem open_params {H : Type} {enc : TypeId × Value → H} {w : World} {base : Nat} {sp : Nat → Bool} {held : Bool} {fuel : Nat} {v0 v1 v2 v3 v4 : Value} {x : DataW H × List MemPlace} (h : DataW.trod enc Tryz.prog w base sp held fuel 23 [v0, v1, v2, v3, v4] = some x) :
    ∃ a d i z c : Int, [v0, v1, v2, v3, v4] = [.int .i64 a, .int .i64 d, .int .i64 i, .int .i64 z, .int .i64 c] := by
  obtain ⟨xs, n, _, _, _, hlen, hf⟩ := DataW.trod_struct Tryz.underlying23 h
  match xs, hlen with
  | [y0, y1, y2, y3, y4], _ =>
    have h0 := hf 0 _ rfl
    have h1 := hf 1 _ rfl
    have h2 := hf 2 _ rfl
    have h3 := hf 3 _ rfl
    have h4 := hf 4 _ rfl
    simp [ci] at h0 h1 h2 h3 h4
    obtain ⟨m0, rfl, _⟩ := int_of_trod Tryz.underlying3 h0
    obtain ⟨m1, rfl, _⟩ := int_of_trod Tryz.underlying3 h1
    obtain ⟨m2, rfl, _⟩ := int_of_trod Tryz.underlying3 h2
    obtain ⟨m3, rfl, _⟩ := int_of_trod Tryz.underlying3 h3
    obtain ⟨m4, rfl, _⟩ := int_of_trod Tryz.underlying3 h4
    exact ⟨m0, m1, m2, m3, m4, rfl⟩
set_option maxRecDepth 100000 in
/-- A HEAD THAT CAME IN: eight integers. -/
theorem open_head {H : Type} {enc : TypeId × Value → H} {w : World} {base b0 : Nat} {r : Reach} {sp : Nat → Bool} {held : Bool} {v : Value} {d : DataW H} {ps : List MemPlace} (hv : Value.okWide Tryz.prog w r b0 25 v) (hd : DataW.Trod enc Tryz.prog w base sp held 25 v d ps) :
    ∃ n m a d i z c b : Int, v = pk.headV n m a d i z c b := by
  obtain ⟨cs, rfl, hz⟩ := okWide_struct Tryz.underlying25 hv
  rw [ch] at hz
  obtain ⟨fuel, hf⟩ := hd
  obtain ⟨l⟩ := cs
  match l, hz with
  | [v0, v1, v2, v3, v4, v5, v6, v7], _ =>
    obtain ⟨xs, n, _, _, _, hlen, hf⟩ := DataW.trod_struct Tryz.underlying25 hf
    match xs, hlen with
    | [y0, y1, y2, y3], _ =>
      have h0 := hf 0 _ rfl
      have h1 := hf 1 _ rfl
      have h2 := hf 2 _ rfl
      have h3 := hf 3 _ rfl
      simp [ci, cp] at h0 h1 h2 h3
      obtain ⟨m0, rfl, _⟩ := int_of_trod Tryz.underlying3 h0
      obtain ⟨m1, rfl, _⟩ := int_of_trod Tryz.underlying3 h1
      obtain ⟨m3, rfl, _⟩ := int_of_trod Tryz.underlying3 h3
      obtain ⟨a, d, i, z, c, e⟩ := open_params h2
      injection e with e0 e
      injection e with e1 e
      injection e with e2 e
      injection e with e3 e
      injection e with e4 e
      subst e0 e1 e2 e3 e4
      exact ⟨m0, m1, a, d, i, z, c, m3, rfl⟩

set_option maxRecDepth 100000 in
theorem two {W : World} {fuel : Nat} {cs : Array Value} {a b : Int} {p : List MemPlace} (h : DataW.trod (fun _ => ()) Tryz.prog W 0 (fun _ => true) false fuel 145 cs.toList = some (.agg [.lit (.int .u8 a), .lit (.int .u64 b)], p)) : cs = #[.int .u8 a, .int .u64 b] := by
  obtain ⟨y0, y1, n, hx, hl, h0, h1⟩ := trod_struct2 Tryz.underlying145 h
  rw [cc] at hl
  obtain ⟨l⟩ := cs
  match l, hl with
  | [v0, v1], _ =>
    simp only [c1, c8] at h0 h1
    obtain ⟨m0, rfl, rfl⟩ := int_of_trod Tryz.underlying5 h0
    obtain ⟨m1, rfl, rfl⟩ := int_of_trod Tryz.underlying51 h1
    have hx1 : DataW.agg [.lit (.int .u8 a), .lit (.int .u64 b)] = (DataW.agg [.lit (.int .u8 m0), .lit (.int .u64 m1)] : DataW Unit) := congrArg Prod.fst hx
    injection hx1 with hx1
    injection hx1 with hx1 hx2
    injection hx1 with hx1; injection hx1 with _ hx1
    injection hx2 with hx2 _
    injection hx2 with hx2; injection hx2 with _ hx2
    rw [hx1, hx2]

theorem lt_row {W : World} {g : Nat} {o : Obj} (h : W.heap[g]? = some o) : g < W.heap.size := by
  obtain ⟨hl, _⟩ := Array.getElem?_eq_some_iff.1 h
  exact hl
theorem var_block {W : World} {name : String} {g : Nat} {cs : Array Value} (hg : Tryz.prog.globalNamed name = some g) (h : W.var? Tryz.prog name = some cs) : ∃ e z, W.heap[g]? = some (.cells cs e z) := by
  unfold World.var? at h
  rw [hg] at h
  simp only [Option.bind_some] at h
  split at h
  · rename_i e z hh
    injection h with h; subst h
    exact ⟨_, _, hh⟩
  · cases h

/-- WHAT THE ROW's LIST GIVES: the two variables' cells. -/
theorem laid {W : World} (h : laidMetH Tryz.prog Rows.packHeadsRow.laid W) : (∃ e z, W.heap[0]? = some (.cells #[.int .u8 1, .int .u64 0] e z)) ∧ ∃ e z, W.heap[1]? = some (.cells #[.int .u8 0, .int .u64 0] e z) := by
  have h' : laidMet Tryz.prog [("wattle/list.gamma", .agg [.lit (.int .u8 1), .lit (.int .u64 0)]), ("wattle/list.unary", .agg [.lit (.int .u8 0), .lit (.int .u64 0)])] W := h
  obtain ⟨ps, ⟨g, t, cs, fuel, p, q, hg, ht, hvar, hd, ⟨g', t', cs', fuel', p', q', hg', ht', hvar', hd', _, _⟩, _⟩, _⟩ := h'
  obtain rfl := Option.some.inj (g0.symm.trans hg)
  obtain rfl := Option.some.inj (t0.symm.trans ht)
  obtain rfl := Option.some.inj (g1.symm.trans hg')
  obtain rfl := Option.some.inj (t1.symm.trans ht')
  rw [two hd] at hvar
  rw [two hd'] at hvar'
  exact ⟨var_block g0 hvar, var_block g1 hvar'⟩

set_option maxRecDepth 100000 in
theorem contract (H : Type) (enc : TypeId × Value → H) (W : World) (base : Nat) (args : Array Value) (ds gs : List (DataW H)) (before : List MemPlace)
    (hval0 : ∀ (j : Nat) t v, Tryz.f3.params[j]? = some t → args[j]? = some v → Value.okWide Tryz.prog W .any base t v)
    (hW : DataW.Whole enc Tryz.prog Tryz.f3.params.toList Rows.packHeadsSpec.vars false W args.toList ds gs before) (hsz0 : (DataW.weightsEach Tryz.prog (Tryz.f3.params.toList ++ (OpenSpec.ofChange Rows.packHeadsSpec).bare.plain.varTypes Tryz.prog) (ds ++ gs)).all (· ≤ reachBytes) = true) (hL : laidMetH Tryz.prog Rows.packHeadsRow.laid W) :
    Calls Tryz.prog 3 args W fun e W' => ∃ v, e = .returned v ∧ Rows.packHeadsSpec.post enc Tryz.prog Tryz.f3 false true false false W args v W' := by
  have hval : ∀ (j : Nat) t v, Tryz.f3.params[j]? = some t → args[j]? = some v → Value.okWide Tryz.prog W .any base t v := hval0
  have hW' := hW
  obtain ⟨p, q, hA0, hV, rfl, hfz, hnd⟩ := hW
  have hA : DataW.TrodAll enc Tryz.prog W 0 (fun _ => true) true Tryz.f3.params.toList args.toList ds p := hA0
  rw [Tryz.params3] at hA hval
  obtain ⟨v0, vs0, d0, ds0, p0, q0, hargs, rfl, rfl, h0, r0⟩ := trodAll_cons hA
  obtain ⟨v1, vs1, d1, ds1, p1, q1, rfl, rfl, rfl, h1, r1⟩ := trodAll_cons r0
  obtain ⟨rfl, rfl, rfl⟩ := trodAll_nil r1
  obtain rfl : args = #[v0, v1] := by cases args; simp_all
  obtain ⟨rfl, rfl⟩ := trodVars_none hV
  obtain ⟨n, m, a, d, i, z, c, b, rfl⟩ := open_head (hval 0 _ v0 rfl rfl) h0
  have k0 := h0
  have lt0 : ∀ x ∈ p0, x.block < W.heap.size := by obtain ⟨m, hm⟩ := k0; exact DataW.trod_lt m _ _ _ hm
  obtain ⟨a1, rfl, rfl, rfl, w1⟩ := open_string Tryz.underlying9 (hval 1 9 v1 rfl rfl) h1
  obtain ⟨⟨e0, z0, g0⟩, e1, z1, g1⟩ := laid hL
  rw [Tryz.params3] at hsz0
  have hz := sized_string hsz0 (j := 1) rfl rfl
  clear hA0 hval0
  have AW : ∀ W2, Below W.heap.size W W2 → Calls Tryz.prog 13 #[] W2 fun e w' => e = .returned (.bool true) ∧ Below W2.heap.size W2 w' :=
    fun W2 k => ev.packHeads_awake W2 e0 e1 _ _ ((k.block _ (lt_row g0)).trans g0) (ev.pairRow_rel rfl rfl) ((k.block _ (lt_row g1)).trans g1) (ev.pairRow_rel rfl rfl)
  refine (pk.packHeads_walk n m a d i z c b a1 (Nat.le_trans (show a1.size ≤ reachBytes by simpa using hz) (by decide)) W AW).mono fun e W' ⟨he, bel⟩ => ?_
  subst he
  exact ⟨_, rfl, _, _, _, [], _, [], hW', trodAll_mk1 (shut_bool Tryz.underlying4 _), (trodAll_cons_mk (Below.trod laidOut (by kernel_rfl) (of_decide_eq_true (by kernel_rfl)) k0 bel lt0) (trodAll_cons_mk (shut_string Tryz.underlying9 w1) trodAll_mk0)), rfl, bel.frame _, fun h => by cases h⟩

/-- A WORLD FOR THE WITNESS: the settled one, the two variables holding what their initialisers lay. -/
noncomputable def laidWorld (os : Os) : World :=
  { World.holding Tryz.prog os ⟨#[], #[], []⟩ with heap := ((World.holding Tryz.prog os ⟨#[], #[], []⟩).heap.modify 0 (fun x => match x with | .cells _ t frozen => .cells #[.int .u8 1, .int .u64 0] t frozen | o => o)).modify 1 (fun x => match x with | .cells _ t frozen => .cells #[.int .u8 0, .int .u64 0] t frozen | o => o) }
theorem laid_met (os : Os) : laidMet Tryz.prog Rows.packHeadsRow.laid ((laidWorld os).forCall (fun _ _ => 0) ⟨#[], #[.agg #[.int .i64 0, .int .i64 0, .int .i64 0, .int .i64 0, .int .i64 0, .int .i64 0, .int .i64 0, .int .i64 0], .string ⟨#[]⟩], []⟩).memory :=
  laidMet_of_run' 8 (by kernel_rfl) (by kernel_rfl)
theorem reads (os : Os) {H : Type} (enc : TypeId × Value → H) : ∃ places, DataW.whole enc Tryz.prog ((laidWorld os).forCall (fun _ _ => 0) ⟨#[], #[.agg #[.int .i64 0, .int .i64 0, .int .i64 0, .int .i64 0, .int .i64 0, .int .i64 0, .int .i64 0, .int .i64 0], .string ⟨#[]⟩], []⟩).memory Tryz.f3.params.toList Rows.packHeadsSpec.vars false (#[.agg #[.int .i64 0, .int .i64 0, .int .i64 0, .int .i64 0, .int .i64 0, .int .i64 0, .int .i64 0, .int .i64 0], .string ⟨#[]⟩] : Array Value).toList 8 = some ([.agg [.lit (.int .i64 0), .lit (.int .i64 0), .agg [.lit (.int .i64 0), .lit (.int .i64 0), .lit (.int .i64 0), .lit (.int .i64 0), .lit (.int .i64 0)], .lit (.int .i64 0)], .lit (.string [])], [], places) :=
  ⟨[], by kernel_rfl⟩

set_option maxRecDepth 100000 in
theorem lifted (os : Os) (started : os.Started) (H : Type) (enc : TypeId × Value → H) (F : Stop.Interp) :
    ReturnsInHanded {} Tryz.checked os 3 .any ((OpenSpec.ofChange Rows.packHeadsSpec).preRow enc Tryz.prog Tryz.f3 Rows.packHeadsRow.domain false Rows.packHeadsRow.laid) (((OpenSpec.ofChange Rows.packHeadsSpec).at F).post enc Tryz.prog Tryz.f3 false true false false) := by
  obtain ⟨places, hx⟩ := reads os enc
  refine returnsInHanded_of_row (C := Tryz.checked) (s := OpenSpec.ofChange Rows.packHeadsSpec) own started (by kernel_rfl) Tryz.func3
    (witness_row_at (enc := enc) (C := Tryz.checked) false (laidWorld os) #[.agg #[.int .i64 0, .int .i64 0, .int .i64 0, .int .i64 0, .int .i64 0, .int .i64 0, .int .i64 0, .int .i64 0], .string ⟨#[]⟩] rfl (by kernel_rfl) (by kernel_rfl) (by kernel_rfl)
      (OpenSpec.preRow_of_cond 8 hx (by kernel_rfl) (fun k hk => by cases hk) (by kernel_rfl) (laid_met os))) ?_
  intro W base args ds gs before hval hW _ _ hsz hL _ _
  exact contract H enc W base args ds gs before hval hW hsz hL

theorem and_mk {a b : Bool} (h : a = true) (h' : b = true) : (a && b) = true := by rw [h, h']; rfl
set_option maxHeartbeats 20000000 in
set_option maxRecDepth 100000 in
theorem closed : joinedFacts Tryz.pinned.checked.prog 3 Tryz.f3 (OpenSpec.ofChange Rows.packHeadsSpec).bare Rows.packHeadsRow = true := by
  unfold joinedFacts
  repeat' (with_reducible apply and_mk)
  all_goals (as_aux_lemma => kernel_rfl)
theorem inst : Tryz.f3.isInstance Tryz.pinned.checked.prog Rows.packHeadsRow.origin Rows.packHeadsRow.targs := of_decide_eq_true (by kernel_rfl)

theorem said : Rows.PackHeadsSaid :=
  OpenClaim.holds_of_cond 3 Tryz.f3 rfl rfl rfl rfl rfl rfl rfl ⟨rfl, rfl, rfl, rfl, rfl⟩ rfl rfl rfl rfl rfl (by kernel_rfl) Tryz.func3 closed
    inst (by unfold Func.isWrapper; first | (rw [if_pos (by decide +kernel)]; kernel_rfl) | (rw [if_neg (by decide +kernel)]; exact ⟨rfl, rfl⟩))
    (fun os started H enc _ F => by rw [OpenClaim.pre_eq_preRow]; exact lifted os started H enc F)

theorem plain (f : FuncId) (fn : Func) (hf : Tryz.pinned.checked.prog.funcNamed "wattle/wattlelaw15.PackHeads" = some f) (hfn : Tryz.pinned.checked.prog.funcs[f]? = some fn) :
    false = Tryz.pinned.checked.prog.looks [] ∧ ∀ (j : Nat) t, fn.params[j]? = some t → Tryz.pinned.checked.prog.wantsStandIn t = false := by
  obtain rfl : f = 3 := Option.some.inj ((show Tryz.prog.funcNamed "wattle/wattlelaw15.PackHeads" = some 3 by kernel_rfl).symm.trans hf) |>.symm
  obtain rfl : fn = Tryz.f3 := (Option.some.inj (Tryz.func3.symm.trans hfn)).symm
  refine ⟨by kernel_rfl, fun j t ht => ?_⟩
  rw [Tryz.params3] at ht
  have hm := Array.mem_of_getElem? ht
  simp only [List.mem_toArray, List.mem_cons, List.not_mem_nil, or_false] at hm
  rcases hm with rfl | rfl
  · exact (show Tryz.prog.wantsStandIn 25 = false by kernel_rfl)
  · exact (show Tryz.prog.wantsStandIn 9 = false by kernel_rfl)

/-- ████ THE CARD ████ -/
theorem card : Rows.PackHeadsCardSaid :=
  Claim7.holds_tied_plain_at .later [] _ _ _ _ said (fun _ h => by cases h) (by kernel_rfl) (fun _ h => by cases h) packHeads_row_tie rfl ⟨rfl, rfl⟩ (by kernel_rfl) rfl plain (by kernel_rfl)
end Go.Proofs.YthaicpbdlhkkkaaGreatDoor.packHeads
