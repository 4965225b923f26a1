/- The card of BvDecodes: what the row's list gives (two package-level variables of two cells each), the walk (another text), the row, the card. -/
import Derived.Test.YtflnpcgnenhogaaGreatDoorBd35
import Derived.Test.YtflnpcgnenhogaaGreatDoorBd40
import Derived.Test.YtflnpcgnenhogaaGreatDoorBd41
import Derived.Test.YtflnpcgnenhogaaGreatDoorCards
import Derived.Test.YtflnpcgnenhogaaGreatDoorTie
import Derived.WalkKit
import Derived.ProofKit
import Derived.OpenShut
import Derived.Deep.DeepHandedRow
import Derived.ChangeSame
import Derived.Lib.LaidTab
import Derived.ShutString
import Derived.ChangeOld
import Derived.ChangeSlices
import Derived.ChangeMaps5
import Derived.Below
import Derived.SizedLaws
namespace Go.Proofs.YtflnpcgnenhogaaGreatDoor.bvDecodes
open Go.ChangeShapes Go.WideShapes Go.ChangeAt Go.RowKit
open Go.ChangeMaps (open_string shut_string)

theorem laidOut : laidOutB Tryz.prog = true := by kernel_rfl
theorem own : ownKnob Tryz.prog.godebug = none := by kernel_rfl
theorem g0 : Tryz.prog.globalNamed "wattle/list.gamma" = some 0 := by kernel_rfl
theorem g1 : Tryz.prog.globalNamed "wattle/list.unary" = some 1 := by kernel_rfl
theorem t0 : (Tryz.prog.globals[0]?).map (·.type) = some 101 := by kernel_rfl
theorem t1 : (Tryz.prog.globals[1]?).map (·.type) = some 101 := by kernel_rfl
theorem cc : Tryz.prog.cellsOf 101 = 2 := by kernel_rfl
theorem c1 : Tryz.prog.cellsOf 5 = 1 := by kernel_rfl
theorem c8 : Tryz.prog.cellsOf 97 = 1 := by kernel_rfl

set_option maxRecDepth 100000 in
theorem two {W : World} {fuel : Nat} {cs : Array Value} {a b : Int} {p : List MemPlace} (h : DataW.trod (fun _ => ()) Tryz.prog W 0 (fun _ => true) false fuel 101 cs.toList = some (.agg [.lit (.int .u8 a), .lit (.int .u64 b)], p)) : cs = #[.int .u8 a, .int .u64 b] := by
 obtain ⟨y0,y1,n,hx,hl,h0,h1⟩ := trod_struct2 Tryz.underlying101 h
 rw [cc] at hl
 obtain ⟨l⟩ := cs
 match l,hl with
 | [v0,v1],_ =>
  simp only [c1,c8] at h0 h1
  obtain ⟨m0,rfl,rfl⟩ := ls.int_of_trod Tryz.underlying5 h0
  obtain ⟨m1,rfl,rfl⟩ := ls.int_of_trod Tryz.underlying97 h1
  have hx1 : DataW.agg [.lit (.int .u8 a),.lit (.int .u64 b)] = (DataW.agg [.lit (.int .u8 m0),.lit (.int .u64 m1)] : DataW Unit) := congrArg Prod.fst hx
  injection hx1 with hx1
  injection hx1 with hx1 hx2
  injection hx1 with hx1; injection hx1 with _ hx1
  injection hx2 with hx2 _
  injection hx2 with hx2; injection hx2 with _ hx2
  rw [hx1,hx2]

theorem lt_row {W : World} {g : Nat} {o : Obj} (h : W.heap[g]? = some o) : g < W.heap.size := by
 obtain ⟨hl,_⟩ := Array.getElem?_eq_some_iff.1 h
 exact hl
theorem var_block {W : World} {name : String} {g : Nat} {cs : Array Value} (hg : Tryz.prog.globalNamed name = some g) (h : W.var? Tryz.prog name = some cs) : ∃ e z, W.heap[g]? = some (.cells cs e z) := by
 unfold World.var? at h
 rw [hg] at h
 simp only [Option.bind_some] at h
 split at h
 ·rename_i e z hh
  injection h with h; subst h
  exact ⟨_,_,hh⟩
 ·cases h

theorem cell_laid {W : World} {g j : Nat} {cs : Array Value} {e : TypeId} {z : Nat × Nat} {v : Value} (h : W.heap[g]? = some (.cells cs e z)) (hv : cs[j]? = some v) : W.cell? ⟨g, j, none⟩ = some v := by
 rw [cell_of_row _ _ _ _ _ _ h]; exact hv
/-- WHAT THE ROW's LIST GIVES: the two variables' cells. -/
theorem laid {W : World} (h : laidMetH Tryz.prog Rows.bvDecodesUptoRow.laid W) : (∃ e z, W.heap[0]? = some (.cells #[.int .u8 1, .int .u64 0] e z)) ∧ ∃ e z, W.heap[1]? = some (.cells #[.int .u8 0, .int .u64 0] e z) := by
 have h' : laidMet Tryz.prog [("wattle/list.gamma", .agg [.lit (.int .u8 1), .lit (.int .u64 0)]), ("wattle/list.unary", .agg [.lit (.int .u8 0), .lit (.int .u64 0)])] W := h
 obtain ⟨ps,⟨g,t,cs,fuel,p,q,hg,ht,hvar,hd,⟨g', t', cs', fuel', p', q', hg', ht', hvar', hd', _,_⟩,_⟩,_⟩ := h'
 obtain rfl := Option.some.inj (g0.symm.trans hg)
 obtain rfl := Option.some.inj (t0.symm.trans ht)
 obtain rfl := Option.some.inj (g1.symm.trans hg')
 obtain rfl := Option.some.inj (t1.symm.trans ht')
 rw [two hd] at hvar
 rw [two hd'] at hvar'
 exact ⟨var_block g0 hvar,var_block g1 hvar'⟩

set_option maxRecDepth 100000 in
theorem contract (H : Type) (enc : TypeId × Value → H) (W : World) (base : Nat) (args : Array Value) (ds gs : List (DataW H)) (before : List MemPlace)
  (hval0 : ∀ (j : Nat) t v,Tryz.f5.params[j]? = some t -> args[j]? = some v -> Value.okWide Tryz.prog W .any base t v)
  (hW : DataW.Whole enc Tryz.prog Tryz.f5.params.toList Rows.bvDecodesSpec.vars false W args.toList ds gs before) (hsz0 : (DataW.weightsEach Tryz.prog (Tryz.f5.params.toList ++ (Rows.OpenSpec.upto Rows.bvDecodesSpec).bare.plain.varTypes Tryz.prog) (ds ++ gs)).all (· <= reachBytes) = true) (hL : laidMetH Tryz.prog Rows.bvDecodesUptoRow.laid W) (hk : Rows.uptoSmall H (ds ++ gs) = true) :
  Calls Tryz.prog 5 args W fun e W' => ∃ v,e = .returned v /\ Rows.bvDecodesSpec.post enc Tryz.prog Tryz.f5 false true false false W args v W' := by
 have hval : ∀ (j : Nat) t v,Tryz.f5.params[j]? = some t -> args[j]? = some v -> Value.okWide Tryz.prog W .any base t v := hval0
 have hW' := hW
 obtain ⟨p,q,hA0,hV,rfl,hfz,hnd⟩ := hW
 have hA : DataW.TrodAll enc Tryz.prog W 0 (fun _ => true) true Tryz.f5.params.toList args.toList ds p := hA0
 rw [Tryz.params5] at hA hval
 obtain ⟨v0,vs0,d0,ds0,p0,q0,hargs,rfl,rfl,h0,r0⟩ := trodAll_cons hA
 obtain ⟨v1,vs1,d1,ds1,p1,q1,rfl,rfl,rfl,h1,r1⟩ := trodAll_cons r0
 obtain ⟨rfl,rfl,rfl⟩ := trodAll_nil r1
 obtain rfl : args = #[v0,v1] := by cases args; simp_all
 obtain ⟨rfl,rfl⟩ := trodVars_none hV
 rw [Tryz.params5] at hsz0
 obtain ⟨st,rfl,rfl,rfl,w0⟩ := open_string Tryz.underlying9 (hval 0 9 v0 rfl rfl) h0
 obtain ⟨z,zN,pw,pd,pi,pz,pc,rfl⟩ := ls.ask14_open (hval 1 _ v1 rfl rfl) h1
 have k0 := h1
 have lt0 : ∀ x ∈ p1,x.block < W.heap.size := by obtain ⟨m,hm⟩ := k0; exact DataW.trod_lt m _ _ _ hm
 have hst : st.size <= 1048576 := by
  have h : Rows.uptoBulkAll _ <= 1048576 := of_decide_eq_true hk
  simp only [Rows.uptoBulkAll,Rows.uptoBulk,List.cons_append,List.nil_append] at h
  have e : st.data.toList.length = st.size := by simp
  omega
 obtain ⟨⟨e0,z0,g0⟩,e1,z1,g1⟩ := laid hL
 clear hA0 hval0
 have GG : ls.GL W := ⟨cell_laid g0 rfl,cell_laid g0 rfl,cell_laid g1 rfl,cell_laid g1 rfl⟩
 have AW : ∀ W2,Below W.heap.size W W2 -> Calls Tryz.prog 32 #[] W2 fun e w' => e = .returned (.bool true) /\ Below W2.heap.size W2 w' := fun W2 k => ls.awake14_any W2 (GG.below k)
 refine (ls.bvdecs_any W GG AW st (by omega) z zN pw pd pi pz pc).mono fun e W' ⟨he,bel⟩ => ?_
 subst he
 exact ⟨_,rfl,_,_,_,[],_,[],hW', trodAll_mk1 (shut_bool Tryz.underlying4 _),(trodAll_cons_mk (shut_string Tryz.underlying9 w0) (trodAll_cons_mk (Below.trod laidOut (by kernel_rfl) (of_decide_eq_true (by kernel_rfl)) k0 bel lt0) trodAll_mk0)),rfl,bel.frame _,fun h => by cases h⟩

/-- A WORLD FOR THE WITNESS: the settled one, the two variables holding what their initialisers lay. -/
noncomputable def laidWorld (os : Os) : World :=
 { World.holding Tryz.prog os ⟨#[],#[],[]⟩ with heap := ((World.holding Tryz.prog os ⟨#[],#[],[]⟩).heap.modify 0 (fun x => match x with | .cells _ t frozen => .cells #[.int .u8 1,.int .u64 0] t frozen | o => o)).modify 1 (fun x => match x with | .cells _ t frozen => .cells #[.int .u8 0,.int .u64 0] t frozen | o => o) }
theorem laid_met (os : Os) : laidMet Tryz.prog Rows.bvDecodesUptoRow.laid ((laidWorld os).forCall (fun _ _ => 0) ⟨#[], #[.string ⟨#[]⟩, .agg #[.int .i64 0, .int .i64 0, .int .i64 0, .int .i64 0, .int .i64 0, .int .i64 0, .int .i64 0]], []⟩).memory :=
 laidMet_of_run' 8 (by kernel_rfl) (by kernel_rfl)
theorem reads (os : Os) {H : Type} (enc : TypeId × Value → H) : ∃ places, DataW.whole enc Tryz.prog ((laidWorld os).forCall (fun _ _ => 0) ⟨#[], #[.string ⟨#[]⟩, .agg #[.int .i64 0, .int .i64 0, .int .i64 0, .int .i64 0, .int .i64 0, .int .i64 0, .int .i64 0]], []⟩).memory Tryz.f5.params.toList Rows.bvDecodesSpec.vars false (#[.string ⟨#[]⟩, .agg #[.int .i64 0, .int .i64 0, .int .i64 0, .int .i64 0, .int .i64 0, .int .i64 0, .int .i64 0]] : Array Value).toList 8 = some ([.lit (.string []), .agg [.lit (.int .i64 0), .lit (.int .i64 0), .agg [.lit (.int .i64 0), .lit (.int .i64 0), .lit (.int .i64 0), .lit (.int .i64 0), .lit (.int .i64 0)]]], [], places) :=
 ⟨[],by kernel_rfl⟩

set_option maxRecDepth 100000 in
theorem lifted (os : Os) (started : os.Started) (H : Type) (enc : TypeId × Value → H) (F : Stop.Interp) :
  ReturnsInHanded {} Tryz.checked os 5 .any ((Rows.OpenSpec.upto Rows.bvDecodesSpec).preRow enc Tryz.prog Tryz.f5 Rows.bvDecodesUptoRow.domain false Rows.bvDecodesUptoRow.laid) (((Rows.OpenSpec.upto Rows.bvDecodesSpec).at F).post enc Tryz.prog Tryz.f5 false true false false) := by
 obtain ⟨places,hx⟩ := reads os enc
 refine returnsInHanded_of_row (C := Tryz.checked) (s := Rows.OpenSpec.upto Rows.bvDecodesSpec) own started (by kernel_rfl) Tryz.func5
  (witness_row_at (enc := enc) (C := Tryz.checked) false (laidWorld os) #[.string ⟨#[]⟩,.agg #[.int .i64 0,.int .i64 0,.int .i64 0,.int .i64 0,.int .i64 0,.int .i64 0,.int .i64 0]] rfl (by kernel_rfl) (by kernel_rfl) (by kernel_rfl)
   (OpenSpec.preRow_of_cond 8 hx (by kernel_rfl) (fun k hk => by cases hk; kernel_rfl) (by kernel_rfl) (laid_met os))) ?_
 intro W base args ds gs before hval hW _ hk hsz hL _ _
 exact contract H enc W base args ds gs before hval hW hsz hL (hk _ rfl)

theorem and_mk {a b : Bool} (h : a = true) (h' : b = true) : (a && b) = true := by rw [h, h']; rfl
set_option maxHeartbeats 20000000 in
set_option maxRecDepth 100000 in
theorem closed : joinedFacts Tryz.pinned.checked.prog 5 Tryz.f5 (Rows.OpenSpec.upto Rows.bvDecodesSpec).bare Rows.bvDecodesUptoRow = true := by
 unfold joinedFacts
 repeat' (with_reducible apply and_mk)
 all_goals (as_aux_lemma => kernel_rfl)
theorem inst : Tryz.f5.isInstance Tryz.pinned.checked.prog Rows.bvDecodesUptoRow.origin Rows.bvDecodesUptoRow.targs := of_decide_eq_true (by kernel_rfl)

theorem said : Rows.BvDecodesUptoSaid :=
 OpenClaim.holds_of_cond 5 Tryz.f5 rfl rfl rfl rfl rfl rfl rfl ⟨rfl,rfl,rfl,rfl,rfl⟩ rfl rfl rfl rfl rfl (by kernel_rfl) Tryz.func5 closed
  inst (by unfold Func.isWrapper; first | (rw [if_pos (by decide +kernel)]; kernel_rfl) | (rw [if_neg (by decide +kernel)]; exact ⟨rfl,rfl⟩))
  (fun os started H enc _ F => by rw [OpenClaim.pre_eq_preRow]; exact lifted os started H enc F)

theorem plain (f : FuncId) (fn : Func) (hf : Tryz.pinned.checked.prog.funcNamed "wattle/wattlelaw14.BvDecodes" = some f) (hfn : Tryz.pinned.checked.prog.funcs[f]? = some fn) :
  false = Tryz.pinned.checked.prog.looks [] /\ ∀ (j : Nat) t,fn.params[j]? = some t -> Tryz.pinned.checked.prog.wantsStandIn t = false := by
 obtain rfl : f = 5 := Option.some.inj ((show Tryz.prog.funcNamed "wattle/wattlelaw14.BvDecodes" = some 5 by kernel_rfl).symm.trans hf) |>.symm
 obtain rfl : fn = Tryz.f5 := (Option.some.inj (Tryz.func5.symm.trans hfn)).symm
 refine ⟨by kernel_rfl,fun j t ht => ?_⟩
 rw [Tryz.params5] at ht
 have hm := Array.mem_of_getElem? ht
 simp only [List.mem_toArray,List.mem_cons,List.not_mem_nil,or_false] at hm
 rcases hm with rfl | rfl
 ·exact (show Tryz.prog.wantsStandIn 9 = false by kernel_rfl)
 ·exact (show Tryz.prog.wantsStandIn 73 = false by kernel_rfl)

/-- ████ THE CARD ████ -/
theorem card : Rows.BvDecodesUptoCardSaid :=
 Claim7.holds_tied_plain_at .later [] _ _ _ _ said (fun _ h => by cases h) (by kernel_rfl) (fun _ h => by cases h) bvDecodesUpto_row_tie rfl ⟨rfl,rfl⟩ (by kernel_rfl) rfl plain (by kernel_rfl)
end Go.Proofs.YtflnpcgnenhogaaGreatDoor.bvDecodes
