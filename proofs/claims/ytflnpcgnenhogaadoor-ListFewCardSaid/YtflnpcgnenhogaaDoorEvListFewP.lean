/- The card of ListFew: what the row's list gives (two package-level variables of two cells each), the walk (another text), the row, the card. -/
import Derived.Test.YtflnpcgnenhogaaDoorEvLsAw
import Derived.Test.YtflnpcgnenhogaaDoorLsZ
import Derived.Test.YtflnpcgnenhogaaDoorCards
import Derived.Test.YtflnpcgnenhogaaDoorTie
import Derived.WalkKit
import Derived.ProofKit
import Derived.OpenShut
import Derived.Deep.DeepHandedRow
import Derived.ChangeSame
import Derived.Lib.LaidTab
import Derived.ShutString
import Derived.ChangeOld
import Derived.ChangeSlices
import Derived.ChangeMaps5
import Derived.Below
import Derived.SizedLaws
namespace Go.Proofs.YtflnpcgnenhogaaDoor.listFew
open Go.ChangeShapes Go.WideShapes Go.ChangeAt Go.RowKit
open Go.ChangeMaps (open_string shut_string)

theorem laidOut : laidOutB Tryd.prog = true := by kernel_rfl
theorem own : ownKnob Tryd.prog.godebug = none := by kernel_rfl
theorem g0 : Tryd.prog.globalNamed "wattle/list.gamma" = some 0 := by kernel_rfl
theorem g1 : Tryd.prog.globalNamed "wattle/list.unary" = some 1 := by kernel_rfl
theorem t0 : (Tryd.prog.globals[0]?).map (·.type) = some 85 := by kernel_rfl
theorem t1 : (Tryd.prog.globals[1]?).map (·.type) = some 85 := by kernel_rfl
theorem cc : Tryd.prog.cellsOf 85 = 2 := by kernel_rfl
theorem c1 : Tryd.prog.cellsOf 5 = 1 := by kernel_rfl
theorem c8 : Tryd.prog.cellsOf 76 = 1 := by kernel_rfl

theorem int_of_trod {H : Type} {enc : TypeId × Value → H} {P : Program} {w : World} {base : Nat} {sp : Nat → Bool} {held : Bool} {fuel : Nat} {t : TypeId} {k : IntKind} {c : Value} {y : DataW H × List MemPlace}
    (ht : P.underlying t = some (.int k)) (h : DataW.trod enc P w base sp held fuel t [c] = some y) : ∃ n, c = .int k n ∧ y = (.lit (.int k n), []) := by
  cases fuel with
  | zero => simp [DataW.trod] at h
  | succ fuel =>
    cases c <;> simp [DataW.trod, ht] at h
    rename_i k' n
    obtain ⟨⟨rfl, _⟩, rfl⟩ := h
    exact ⟨n, rfl, rfl⟩

theorem bytesU32 : Tryd.prog.bytesOf 60 = 4 := by kernel_rfl
theorem cellsU32 : Tryd.prog.cellsOf 60 = 1 := by kernel_rfl
/-- numbers that came in, opened -/
theorem u32_open {H : Type} {enc : TypeId × Value → H} {W : World} {a : Option Addr} {len cap : Nat} {d : DataW H} {p : List MemPlace}
    (h : DataW.Trod enc Tryd.prog W 0 (fun _ => true) true 29 (.slice a len cap) d p) (hs : ∀ e s, d = .slice e s → e.length + s.length ≤ 4611686018427387903) : ∃ l : List Nat, l.length = len ∧ len ≤ cap ∧ ls.LV W a l := by
  obtain ⟨fuel, hf⟩ := h
  rcases open_ints Tryd.underlying29 Tryd.underlying60 cellsU32 hf with ⟨hcs, _⟩ | ⟨x, len', cap', zs, hcs, _, hl, hm, hz, hd, hc, hw⟩
  · simp [Value.cells] at hcs
    obtain ⟨rfl, rfl, rfl⟩ := hcs
    exact ⟨[], rfl, Nat.le_refl _, Nat.zero_le _, fun j hj => by cases hj⟩
  · simp [Value.cells] at hcs
    obtain ⟨rfl, rfl, rfl⟩ := hcs
    have hz : zs.length = cap := by simpa using hz
    have ln : ((zs.take len).map Int.toNat).length = len := by rw [List.length_map, List.length_take]; omega
    have hl9 : len ≤ 4611686018427387903 := by
      have h9 := hs _ _ (congrArg Prod.fst hd)
      simp [lits] at h9
      omega
    refine ⟨(zs.take len).map Int.toNat, ln, hl, by rw [ln]; exact hl9, fun j hj => ?_⟩
    rw [ln] at hj
    have g0 := hc j (by omega)
    obtain ⟨b, o, sp⟩ := x
    have hsp := World.cell?_spot g0
    have hsp : sp = none := by
      by_cases hj0 : j = 0
      · subst hj0; simpa [Addr.add] using hsp
      · have g1 := hc 0 (by omega)
        have := World.cell?_spot g1
        simpa [Addr.add] using this
    subst hsp
    have e : zs.getD j 0 = zs[j]'(by omega) := by rw [List.getD_eq_getElem?_getD, List.getElem?_eq_getElem (by omega)]; rfl
    have g1 : W.cell? ⟨b, o + j, none⟩ = some (.int .u32 (zs[j]'(by omega))) := by rw [Addr.add_lit, e] at g0; exact g0
    have hwf := hw (zs[j]'(by omega)) (List.getElem_mem _)
    simp [Lit.wf] at hwf
    obtain ⟨q1, q2⟩ := hwf
    have e1 : IntKind.u32.min = 0 := by decide
    have e2 : IntKind.u32.max = 4294967295 := by decide
    rw [e1] at q1
    rw [e2] at q2
    refine ⟨b, o, rfl, World.block_lt_of_cell? W _ g1, ?_, ?_⟩
    · rw [g1]
      simp only [List.getElem_map, List.getElem_take]
      rw [Int.toNat_of_nonneg q1]
    · simp only [List.getElem_map, List.getElem_take]
      omega

set_option maxRecDepth 100000 in
theorem two {W : World} {fuel : Nat} {cs : Array Value} {a b : Int} {p : List MemPlace} (h : DataW.trod (fun _ => ()) Tryd.prog W 0 (fun _ => true) false fuel 85 cs.toList = some (.agg [.lit (.int .u8 a), .lit (.int .u64 b)], p)) : cs = #[.int .u8 a, .int .u64 b] := by
  obtain ⟨y0, y1, n, hx, hl, h0, h1⟩ := trod_struct2 Tryd.underlying85 h
  rw [cc] at hl
  obtain ⟨l⟩ := cs
  match l, hl with
  | [v0, v1], _ =>
    simp only [c1, c8] at h0 h1
    obtain ⟨m0, rfl, rfl⟩ := int_of_trod Tryd.underlying5 h0
    obtain ⟨m1, rfl, rfl⟩ := int_of_trod Tryd.underlying76 h1
    have hx1 : DataW.agg [.lit (.int .u8 a), .lit (.int .u64 b)] = (DataW.agg [.lit (.int .u8 m0), .lit (.int .u64 m1)] : DataW Unit) := congrArg Prod.fst hx
    injection hx1 with hx1
    injection hx1 with hx1 hx2
    injection hx1 with hx1; injection hx1 with _ hx1
    injection hx2 with hx2 _
    injection hx2 with hx2; injection hx2 with _ hx2
    rw [hx1, hx2]

theorem lt_row {W : World} {g : Nat} {o : Obj} (h : W.heap[g]? = some o) : g < W.heap.size := by
  obtain ⟨hl, _⟩ := Array.getElem?_eq_some_iff.1 h
  exact hl
theorem var_block {W : World} {name : String} {g : Nat} {cs : Array Value} (hg : Tryd.prog.globalNamed name = some g) (h : W.var? Tryd.prog name = some cs) : ∃ e z, W.heap[g]? = some (.cells cs e z) := by
  unfold World.var? at h
  rw [hg] at h
  simp only [Option.bind_some] at h
  split at h
  · rename_i e z hh
    injection h with h; subst h
    exact ⟨_, _, hh⟩
  · cases h

theorem cell_laid {W : World} {g j : Nat} {cs : Array Value} {e : TypeId} {z : Nat × Nat} {v : Value} (h : W.heap[g]? = some (.cells cs e z)) (hv : cs[j]? = some v) : W.cell? ⟨g, j, none⟩ = some v := by
  rw [cell_of_row _ _ _ _ _ _ h]; exact hv
/-- WHAT THE ROW's LIST GIVES: the two variables' cells. -/
theorem laid {W : World} (h : laidMetH Tryd.prog Rows.listFewRow.laid W) : (∃ e z, W.heap[0]? = some (.cells #[.int .u8 1, .int .u64 0] e z)) ∧ ∃ e z, W.heap[1]? = some (.cells #[.int .u8 0, .int .u64 0] e z) := by
  have h' : laidMet Tryd.prog [("wattle/list.gamma", .agg [.lit (.int .u8 1), .lit (.int .u64 0)]), ("wattle/list.unary", .agg [.lit (.int .u8 0), .lit (.int .u64 0)])] W := h
  obtain ⟨ps, ⟨g, t, cs, fuel, p, q, hg, ht, hvar, hd, ⟨g', t', cs', fuel', p', q', hg', ht', hvar', hd', _, _⟩, _⟩, _⟩ := h'
  obtain rfl := Option.some.inj (g0.symm.trans hg)
  obtain rfl := Option.some.inj (t0.symm.trans ht)
  obtain rfl := Option.some.inj (g1.symm.trans hg')
  obtain rfl := Option.some.inj (t1.symm.trans ht')
  rw [two hd] at hvar
  rw [two hd'] at hvar'
  exact ⟨var_block g0 hvar, var_block g1 hvar'⟩

set_option maxRecDepth 100000 in
theorem contract (H : Type) (enc : TypeId × Value → H) (W : World) (base : Nat) (args : Array Value) (ds gs : List (DataW H)) (before : List MemPlace)
    (hval0 : ∀ (j : Nat) t v, Tryd.f5.params[j]? = some t → args[j]? = some v → Value.okWide Tryd.prog W .any base t v)
    (hW : DataW.Whole enc Tryd.prog Tryd.f5.params.toList Rows.listFewSpec.vars false W args.toList ds gs before) (hsz0 : (DataW.weightsEach Tryd.prog (Tryd.f5.params.toList ++ (OpenSpec.ofChange Rows.listFewSpec).bare.plain.varTypes Tryd.prog) (ds ++ gs)).all (· ≤ reachBytes) = true) (hL : laidMetH Tryd.prog Rows.listFewRow.laid W) :
    Calls Tryd.prog 5 args W fun e W' => ∃ v, e = .returned v ∧ Rows.listFewSpec.post enc Tryd.prog Tryd.f5 false true false false W args v W' := by
  have hval : ∀ (j : Nat) t v, Tryd.f5.params[j]? = some t → args[j]? = some v → Value.okWide Tryd.prog W .any base t v := hval0
  have hW' := hW
  obtain ⟨p, q, hA0, hV, rfl, hfz, hnd⟩ := hW
  have hA : DataW.TrodAll enc Tryd.prog W 0 (fun _ => true) true Tryd.f5.params.toList args.toList ds p := hA0
  rw [Tryd.params5] at hA hval
  obtain ⟨v0, vs0, d0, ds0, p0, q0, hargs, rfl, rfl, h0, r0⟩ := trodAll_cons hA
  obtain ⟨v1, vs1, d1, ds1, p1, q1, rfl, rfl, rfl, h1, r1⟩ := trodAll_cons r0
  obtain ⟨v2, vs2, d2, ds2, p2, q2, rfl, rfl, rfl, h2, r2⟩ := trodAll_cons r1
  obtain ⟨rfl, rfl, rfl⟩ := trodAll_nil r2
  obtain rfl : args = #[v0, v1, v2] := by cases args; simp_all
  obtain ⟨rfl, rfl⟩ := trodVars_none hV
  rw [Tryd.params5] at hsz0
  obtain ⟨a0, len0, cap0, rfl⟩ := okWide_slice Tryd.underlying29 (hval 0 29 v0 rfl rfl)
  obtain ⟨a1, rfl, rfl, rfl, w1⟩ := open_int Tryd.underlying3 (hval 1 3 v1 rfl rfl) h1
  obtain ⟨a2, rfl, rfl, rfl, w2⟩ := open_int Tryd.underlying3 (hval 2 3 v2 rfl rfl) h2
  have k0 := h0
  have lt0 : ∀ x ∈ p0, x.block < W.heap.size := by obtain ⟨m, hm⟩ := k0; exact DataW.trod_lt m _ _ _ hm
  have hs : ∀ e s, d0 = .slice e s → e.length + s.length ≤ 4611686018427387903 := fun e s he => by
    subst he
    have h9 := sized_slice hsz0 (j := 0) rfl rfl Tryd.underlying29
    rw [bytesU32] at h9
    have := reachBytes_lt
    omega
  obtain ⟨l, rfl, hc, hl⟩ := u32_open h0 hs
  obtain ⟨⟨e0, z0, g0⟩, e1, z1, g1⟩ := laid hL
  clear hA0 hval0
  have AW : ∀ W2, Below W.heap.size W W2 → Calls Tryd.prog 18 #[] W2 fun e w' => e = .returned (.bool true) ∧ Below W2.heap.size W2 w' :=
    fun W2 k => ev.list_awake W2 e0 e1 _ _ ((k.block _ (lt_row g0)).trans g0) (ev.pairRow_rel rfl rfl) ((k.block _ (lt_row g1)).trans g1) (ev.pairRow_rel rfl rfl)
  have GG : ls.GL W := ⟨cell_laid g0 rfl, cell_laid g0 rfl, cell_laid g1 rfl, cell_laid g1 rfl⟩
  refine (ls.few_any W GG AW a0 l cap0 a1 a2 hl hc).mono fun e W' ⟨he, bel⟩ => ?_
  subst he
  exact ⟨_, rfl, _, _, _, [], _, [], hW', trodAll_mk1 (shut_bool Tryd.underlying4 _), (trodAll_cons_mk (Below.trod laidOut (by kernel_rfl) (of_decide_eq_true (by kernel_rfl)) k0 bel lt0) (trodAll_cons_mk (shut_int Tryd.underlying3 w1) (trodAll_cons_mk (shut_int Tryd.underlying3 w2) trodAll_mk0))), rfl, bel.frame _, fun h => by cases h⟩

/-- A WORLD FOR THE WITNESS: the settled one, the two variables holding what their initialisers lay. -/
noncomputable def laidWorld (os : Os) : World :=
  { World.holding Tryd.prog os ⟨#[], #[], []⟩ with heap := ((World.holding Tryd.prog os ⟨#[], #[], []⟩).heap.modify 0 (fun x => match x with | .cells _ t frozen => .cells #[.int .u8 1, .int .u64 0] t frozen | o => o)).modify 1 (fun x => match x with | .cells _ t frozen => .cells #[.int .u8 0, .int .u64 0] t frozen | o => o) }
theorem laid_met (os : Os) : laidMet Tryd.prog Rows.listFewRow.laid ((laidWorld os).forCall (fun _ _ => 0) ⟨#[], #[.slice none 0 0, .int .i64 0, .int .i64 0], []⟩).memory :=
  laidMet_of_run' 8 (by kernel_rfl) (by kernel_rfl)
theorem reads (os : Os) {H : Type} (enc : TypeId × Value → H) : ∃ places, DataW.whole enc Tryd.prog ((laidWorld os).forCall (fun _ _ => 0) ⟨#[], #[.slice none 0 0, .int .i64 0, .int .i64 0], []⟩).memory Tryd.f5.params.toList Rows.listFewSpec.vars false (#[.slice none 0 0, .int .i64 0, .int .i64 0] : Array Value).toList 8 = some ([.nil, .lit (.int .i64 0), .lit (.int .i64 0)], [], places) :=
  ⟨[], by kernel_rfl⟩

set_option maxRecDepth 100000 in
theorem lifted (os : Os) (started : os.Started) (H : Type) (enc : TypeId × Value → H) (F : Stop.Interp) :
    ReturnsInHanded {} Tryd.checked os 5 .any ((OpenSpec.ofChange Rows.listFewSpec).preRow enc Tryd.prog Tryd.f5 Rows.listFewRow.domain false Rows.listFewRow.laid) (((OpenSpec.ofChange Rows.listFewSpec).at F).post enc Tryd.prog Tryd.f5 false true false false) := by
  obtain ⟨places, hx⟩ := reads os enc
  refine returnsInHanded_of_row (C := Tryd.checked) (s := OpenSpec.ofChange Rows.listFewSpec) own started (by kernel_rfl) Tryd.func5
    (witness_row_at (enc := enc) (C := Tryd.checked) false (laidWorld os) #[.slice none 0 0, .int .i64 0, .int .i64 0] rfl (by kernel_rfl) (by kernel_rfl) (by kernel_rfl)
      (OpenSpec.preRow_of_cond 8 hx (by kernel_rfl) (fun k hk => by cases hk) (by kernel_rfl) (laid_met os))) ?_
  intro W base args ds gs before hval hW _ _ hsz hL _ _
  exact contract H enc W base args ds gs before hval hW hsz hL

theorem and_mk {a b : Bool} (h : a = true) (h' : b = true) : (a && b) = true := by rw [h, h']; rfl
set_option maxHeartbeats 20000000 in
set_option maxRecDepth 100000 in
theorem closed : joinedFacts Tryd.pinned.checked.prog 5 Tryd.f5 (OpenSpec.ofChange Rows.listFewSpec).bare Rows.listFewRow = true := by
  unfold joinedFacts
  repeat' (with_reducible apply and_mk)
  all_goals (as_aux_lemma => kernel_rfl)
theorem inst : Tryd.f5.isInstance Tryd.pinned.checked.prog Rows.listFewRow.origin Rows.listFewRow.targs := of_decide_eq_true (by kernel_rfl)

theorem said : Rows.ListFewSaid :=
  OpenClaim.holds_of_cond 5 Tryd.f5 rfl rfl rfl rfl rfl rfl rfl ⟨rfl, rfl, rfl, rfl, rfl⟩ rfl rfl rfl rfl rfl (by kernel_rfl) Tryd.func5 closed
    inst (by unfold Func.isWrapper; first | (rw [if_pos (by decide +kernel)]; kernel_rfl) | (rw [if_neg (by decide +kernel)]; exact ⟨rfl, rfl⟩))
    (fun os started H enc _ F => by rw [OpenClaim.pre_eq_preRow]; exact lifted os started H enc F)

theorem plain (f : FuncId) (fn : Func) (hf : Tryd.pinned.checked.prog.funcNamed "wattle/wattlelaw13.ListFew" = some f) (hfn : Tryd.pinned.checked.prog.funcs[f]? = some fn) :
    false = Tryd.pinned.checked.prog.looks [] ∧ ∀ (j : Nat) t, fn.params[j]? = some t → Tryd.pinned.checked.prog.wantsStandIn t = false := by
  obtain rfl : f = 5 := Option.some.inj ((show Tryd.prog.funcNamed "wattle/wattlelaw13.ListFew" = some 5 by kernel_rfl).symm.trans hf) |>.symm
  obtain rfl : fn = Tryd.f5 := (Option.some.inj (Tryd.func5.symm.trans hfn)).symm
  refine ⟨by kernel_rfl, fun j t ht => ?_⟩
  rw [Tryd.params5] at ht
  have hm := Array.mem_of_getElem? ht
  simp only [List.mem_toArray, List.mem_cons, List.not_mem_nil, or_false] at hm
  rcases hm with rfl | rfl | rfl
  · exact (show Tryd.prog.wantsStandIn 29 = false by kernel_rfl)
  · exact (show Tryd.prog.wantsStandIn 3 = false by kernel_rfl)
  · exact (show Tryd.prog.wantsStandIn 3 = false by kernel_rfl)

/-- ████ THE CARD ████ -/
theorem card : Rows.ListFewCardSaid :=
  Claim7.holds_tied_plain_at .later [] _ _ _ _ said (fun _ h => by cases h) (by kernel_rfl) (fun _ h => by cases h) listFew_row_tie rfl ⟨rfl, rfl⟩ (by kernel_rfl) rfl plain (by kernel_rfl)
end Go.Proofs.YtflnpcgnenhogaaDoor.listFew
