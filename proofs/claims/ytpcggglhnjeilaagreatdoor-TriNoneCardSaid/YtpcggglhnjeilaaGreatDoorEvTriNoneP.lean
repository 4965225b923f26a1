/- The card of TriNone: what the row's list gives (two package-level variables of two cells each), the walk (another text), the row, the card. -/
import Derived.Test.YtpcggglhnjeilaaGreatDoorEvTriNone
import Derived.Test.YtpcggglhnjeilaaGreatDoorCards
import Derived.Test.YtpcggglhnjeilaaGreatDoorTie
import Derived.WalkKit
import Derived.ProofKit
import Derived.OpenShut
import Derived.Deep.DeepHandedRow
import Derived.ChangeSame
import Derived.Lib.LaidTab
namespace Go.Proofs.YtpcggglhnjeilaaGreatDoor.triNone
open Go.ChangeShapes Go.WideShapes Go.ChangeAt Go.RowKit

theorem own : ownKnob Tryz.prog.godebug = none := by kernel_rfl
theorem g0 : Tryz.prog.globalNamed "wattle/list.gamma" = some 1 := by kernel_rfl
theorem g1 : Tryz.prog.globalNamed "wattle/list.unary" = some 2 := by kernel_rfl
theorem t0 : (Tryz.prog.globals[1]?).map (·.type) = some 308 := by kernel_rfl
theorem t1 : (Tryz.prog.globals[2]?).map (·.type) = some 308 := by kernel_rfl
theorem cc : Tryz.prog.cellsOf 308 = 2 := by kernel_rfl
theorem c1 : Tryz.prog.cellsOf 5 = 1 := by kernel_rfl
theorem c8 : Tryz.prog.cellsOf 58 = 1 := by kernel_rfl

theorem int_of_trod {H : Type} {enc : TypeId × Value → H} {P : Program} {w : World} {base : Nat} {sp : Nat → Bool} {held : Bool} {fuel : Nat} {t : TypeId} {k : IntKind} {c : Value} {y : DataW H × List MemPlace}
    (ht : P.underlying t = some (.int k)) (h : DataW.trod enc P w base sp held fuel t [c] = some y) : ∃ n, c = .int k n ∧ y = (.lit (.int k n), []) := by
  cases fuel with
  | zero => simp [DataW.trod] at h
  | succ fuel =>
    cases c <;> simp [DataW.trod, ht] at h
    rename_i k' n
    obtain ⟨⟨rfl, _⟩, rfl⟩ := h
    exact ⟨n, rfl, rfl⟩

set_option maxRecDepth 100000 in
theorem two {W : World} {fuel : Nat} {cs : Array Value} {a b : Int} {p : List MemPlace} (h : DataW.trod (fun _ => ()) Tryz.prog W 0 (fun _ => true) false fuel 308 cs.toList = some (.agg [.lit (.int .u8 a), .lit (.int .u64 b)], p)) : cs = #[.int .u8 a, .int .u64 b] := by
  obtain ⟨y0, y1, n, hx, hl, h0, h1⟩ := trod_struct2 Tryz.underlying308 h
  rw [cc] at hl
  obtain ⟨l⟩ := cs
  match l, hl with
  | [v0, v1], _ =>
    simp only [c1, c8] at h0 h1
    obtain ⟨m0, rfl, rfl⟩ := int_of_trod Tryz.underlying5 h0
    obtain ⟨m1, rfl, rfl⟩ := int_of_trod Tryz.underlying58 h1
    have hx1 : DataW.agg [.lit (.int .u8 a), .lit (.int .u64 b)] = (DataW.agg [.lit (.int .u8 m0), .lit (.int .u64 m1)] : DataW Unit) := congrArg Prod.fst hx
    injection hx1 with hx1
    injection hx1 with hx1 hx2
    injection hx1 with hx1; injection hx1 with _ hx1
    injection hx2 with hx2 _
    injection hx2 with hx2; injection hx2 with _ hx2
    rw [hx1, hx2]

theorem var_block {W : World} {name : String} {g : Nat} {cs : Array Value} (hg : Tryz.prog.globalNamed name = some g) (h : W.var? Tryz.prog name = some cs) : ∃ e z, W.heap[g]? = some (.cells cs e z) := by
  unfold World.var? at h
  rw [hg] at h
  simp only [Option.bind_some] at h
  split at h
  · rename_i e z hh
    injection h with h; subst h
    exact ⟨_, _, hh⟩
  · cases h

/-- WHAT THE ROW's LIST GIVES: the two variables' cells. -/
theorem laid {W : World} (h : laidMetH Tryz.prog Rows.triNoneRow.laid W) : (∃ e z, W.heap[1]? = some (.cells #[.int .u8 1, .int .u64 0] e z)) ∧ ∃ e z, W.heap[2]? = some (.cells #[.int .u8 0, .int .u64 0] e z) := by
  have h' : laidMet Tryz.prog [("wattle/list.gamma", .agg [.lit (.int .u8 1), .lit (.int .u64 0)]), ("wattle/list.unary", .agg [.lit (.int .u8 0), .lit (.int .u64 0)])] W := h
  obtain ⟨ps, ⟨g, t, cs, fuel, p, q, hg, ht, hvar, hd, ⟨g', t', cs', fuel', p', q', hg', ht', hvar', hd', _, _⟩, _⟩, _⟩ := h'
  obtain rfl := Option.some.inj (g0.symm.trans hg)
  obtain rfl := Option.some.inj (t0.symm.trans ht)
  obtain rfl := Option.some.inj (g1.symm.trans hg')
  obtain rfl := Option.some.inj (t1.symm.trans ht')
  rw [two hd] at hvar
  rw [two hd'] at hvar'
  exact ⟨var_block g0 hvar, var_block g1 hvar'⟩

theorem contract (H : Type) (enc : TypeId × Value → H) (W : World) (base : Nat) (args : Array Value) (ds gs : List (DataW H)) (before : List MemPlace)
    (_ : ∀ (j : Nat) t v, Tryz.f4.params[j]? = some t → args[j]? = some v → Value.okWide Tryz.prog W .any base t v)
    (hW : DataW.Whole enc Tryz.prog Tryz.f4.params.toList Rows.triNoneSpec.vars false W args.toList ds gs before) (hL : laidMetH Tryz.prog Rows.triNoneRow.laid W) :
    Calls Tryz.prog 4 args W fun e W' => ∃ v, e = .returned v ∧ Rows.triNoneSpec.post enc Tryz.prog Tryz.f4 false true false false W args v W' := by
  have hW' := hW
  obtain ⟨p, q, hA0, hV, rfl, _, _⟩ := hW
  have hA : DataW.TrodAll enc Tryz.prog W 0 (fun _ => true) true Tryz.f4.params.toList args.toList ds p := hA0
  rw [Tryz.params4] at hA
  obtain ⟨rfl, rfl, rfl⟩ := trodAll_none hA
  obtain ⟨rfl, rfl⟩ := trodVars_none hV
  clear hA0
  simp only [List.append_nil] at hW'
  obtain ⟨⟨e0, z0, h0⟩, e1, z1, h1⟩ := laid hL
  refine (ev.triNone_walk W h0 h1).mono fun e W' ⟨he, hg⟩ => ?_
  subst he
  exact ⟨_, rfl, _, _, _, [], [], [], hW', (trodAll_cons_mk (shut_bool Tryz.underlying4 _) trodAll_mk0), rfl, rfl, hg.frame _, fun h => by cases h⟩

/-- A WORLD FOR THE WITNESS: the settled one, the two variables holding what their initialisers lay. -/
noncomputable def laidWorld (os : Os) : World :=
  { World.holding Tryz.prog os ⟨#[], #[], []⟩ with heap := ((World.holding Tryz.prog os ⟨#[], #[], []⟩).heap.modify 1 (fun x => match x with | .cells _ t frozen => .cells #[.int .u8 1, .int .u64 0] t frozen | o => o)).modify 2 (fun x => match x with | .cells _ t frozen => .cells #[.int .u8 0, .int .u64 0] t frozen | o => o) }
theorem laid_met (os : Os) : laidMet Tryz.prog Rows.triNoneRow.laid ((laidWorld os).forCall (fun _ _ => 0) ⟨#[], #[], []⟩).memory :=
  laidMet_of_run' 8 (by kernel_rfl) (by kernel_rfl)
theorem reads (os : Os) {H : Type} (enc : TypeId × Value → H) : ∃ places, DataW.whole enc Tryz.prog ((laidWorld os).forCall (fun _ _ => 0) ⟨#[], #[], []⟩).memory Tryz.f4.params.toList Rows.triNoneSpec.vars false (#[] : Array Value).toList 8 = some ([], [], places) :=
  ⟨[], by kernel_rfl⟩

set_option maxRecDepth 100000 in
theorem lifted (os : Os) (started : os.Started) (H : Type) (enc : TypeId × Value → H) (F : Stop.Interp) :
    ReturnsInHanded {} Tryz.checked os 4 .any ((OpenSpec.ofChange Rows.triNoneSpec).preRow enc Tryz.prog Tryz.f4 Rows.triNoneRow.domain false Rows.triNoneRow.laid) (((OpenSpec.ofChange Rows.triNoneSpec).at F).post enc Tryz.prog Tryz.f4 false true false false) := by
  obtain ⟨places, hx⟩ := reads os enc
  refine returnsInHanded_of_row (C := Tryz.checked) (s := OpenSpec.ofChange Rows.triNoneSpec) own started (by kernel_rfl) Tryz.func4
    (witness_row_at (enc := enc) (C := Tryz.checked) false (laidWorld os) #[] rfl (by kernel_rfl) (by kernel_rfl) (by kernel_rfl)
      (OpenSpec.preRow_of_cond 8 hx (by kernel_rfl) (fun k hk => by cases hk) (by kernel_rfl) (laid_met os))) ?_
  intro W base args ds gs before hval hW _ _ _ hL _ _
  exact contract H enc W base args ds gs before hval hW hL

theorem and_mk {a b : Bool} (h : a = true) (h' : b = true) : (a && b) = true := by rw [h, h']; rfl
set_option maxHeartbeats 20000000 in
set_option maxRecDepth 100000 in
theorem closed : joinedFacts Tryz.pinned.checked.prog 4 Tryz.f4 (OpenSpec.ofChange Rows.triNoneSpec).bare Rows.triNoneRow = true := by
  unfold joinedFacts
  repeat' (with_reducible apply and_mk)
  all_goals (as_aux_lemma => kernel_rfl)
theorem inst : Tryz.f4.isInstance Tryz.pinned.checked.prog Rows.triNoneRow.origin Rows.triNoneRow.targs := of_decide_eq_true (by kernel_rfl)

theorem said : Rows.TriNoneSaid :=
  OpenClaim.holds_of_cond 4 Tryz.f4 rfl rfl rfl rfl rfl rfl rfl ⟨rfl, rfl, rfl, rfl, rfl⟩ rfl rfl rfl rfl rfl (by kernel_rfl) Tryz.func4 closed
    inst (by unfold Func.isWrapper; first | (rw [if_pos (by decide +kernel)]; kernel_rfl) | (rw [if_neg (by decide +kernel)]; exact ⟨rfl, rfl⟩))
    (fun os started H enc _ F => by rw [OpenClaim.pre_eq_preRow]; exact lifted os started H enc F)

theorem plain (f : FuncId) (fn : Func) (hf : Tryz.pinned.checked.prog.funcNamed "wattle/wattlelaw26.TriNone" = some f) (hfn : Tryz.pinned.checked.prog.funcs[f]? = some fn) :
    false = Tryz.pinned.checked.prog.looks [] ∧ ∀ (j : Nat) t, fn.params[j]? = some t → Tryz.pinned.checked.prog.wantsStandIn t = false := by
  obtain rfl : f = 4 := Option.some.inj ((show Tryz.prog.funcNamed "wattle/wattlelaw26.TriNone" = some 4 by kernel_rfl).symm.trans hf) |>.symm
  obtain rfl : fn = Tryz.f4 := (Option.some.inj (Tryz.func4.symm.trans hfn)).symm
  refine ⟨by kernel_rfl, fun j t ht => ?_⟩
  rw [Tryz.params4] at ht
  simp at ht

/-- ████ THE CARD ████ -/
theorem card : Rows.TriNoneCardSaid :=
  Claim7.holds_tied_plain_at .later [] _ _ _ _ said (fun _ h => by cases h) (by kernel_rfl) (fun _ h => by cases h) triNone_row_tie rfl ⟨rfl, rfl⟩ (by kernel_rfl) rfl plain (by kernel_rfl)
end Go.Proofs.YtpcggglhnjeilaaGreatDoor.triNone
