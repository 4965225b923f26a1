/- The proof of the statement EdgesShownUptoSaid: the walk of the law (another text) laid into the row, for every input of bulk at most 1048576. -/
import Derived.Test.YthaicpbdlhkkkaaEdgSh
import Derived.Test.YthaicpbdlhkkkaaRows
import Derived.WalkKit
import Derived.ProofKit
import Derived.OpenShut
import Derived.ShutString
import Derived.ChangeOld
import Derived.ChangeSame
import Derived.DataReads
import Derived.Below
import Derived.JoinedCond
namespace Go.Proofs.Ythaicpbdlhkkkaa.edgesShown
open Go.ChangeShapes Go.WideShapes Go.ChangeAt Go.RowKit
open Go.ChangeMaps (open_string shut_string)
set_option linter.unusedVariables false

theorem own : ownKnob Try.prog.godebug = none := by kernel_rfl
theorem laidOut : laidOutB Try.prog = true := by kernel_rfl
theorem ce : Try.prog.cellsOf 37 = 2 := by kernel_rfl
theorem c4 : Try.prog.cellsOf 35 = 1 := by kernel_rfl

theorem wf_u32 {n : Int} (h : (Lit.int .u32 n).wf = true) : 0 ≤ n ∧ n ≤ 4294967295 := by
  simp only [Lit.wf, IntKind.min, IntKind.max, IntKind.signed, IntKind.bits, Bool.and_eq_true, decide_eq_true_eq, Bool.false_eq_true, if_false] at h
  omega
theorem wf_u16 {n : Int} (h : (Lit.int .u16 n).wf = true) : 0 ≤ n ∧ n ≤ 65535 := by
  simp only [Lit.wf, IntKind.min, IntKind.max, IntKind.signed, IntKind.bits, Bool.and_eq_true, decide_eq_true_eq, Bool.false_eq_true, if_false] at h
  omega
theorem u32_of_trod {H : Type} {enc : TypeId × Value → H} {P : Program} {w : World} {base : Nat} {sp : Nat → Bool} {held : Bool} {fuel : Nat} {t : TypeId} {c : Value} {y : DataW H × List MemPlace}
    (ht : P.underlying t = some (.int .u32)) (h : DataW.trod enc P w base sp held fuel t [c] = some y) : ∃ n : Nat, c = .int .u32 (n : Int) ∧ n < 4294967296 := by
  cases fuel with
  | zero => simp [DataW.trod] at h
  | succ fuel =>
    cases c <;> simp [DataW.trod, ht] at h
    rename_i k' n
    obtain ⟨⟨rfl, hw⟩, _⟩ := h
    have := wf_u32 hw
    exact ⟨n.toNat, by congr 1; omega, by omega⟩
theorem spot_none {w : World} {g o : Nat} {sp : Option Nat} {v : Value} (h : w.cell? ⟨g, o, sp⟩ = some v) : sp = none := by
  unfold World.cell? at h
  split at h
  · cases sp with
    | none => rfl
    | some x => simp at h
  · cases h
theorem add_zero (a : Addr) : a.add 0 = a := by simp [Addr.add]
theorem add_one (a : Addr) (m : Nat) : (a.add m).add 1 = a.add (m + 1) := by
  unfold Addr.add
  by_cases h : m = 0
  · subst h; simp
  · simp [h, Nat.add_assoc]
theorem bulk_pos {H : Type} (d : DataW H) : 1 ≤ Rows.uptoBulk d := by
  cases d with
  | lit l => cases l <;> simp [Rows.uptoBulk]
  | _ => simp [Rows.uptoBulk]
theorem bulk_len {H : Type} (l : List (DataW H)) : l.length ≤ Rows.uptoBulkAll l := by
  induction l with
  | nil => simp [Rows.uptoBulkAll]
  | cons x r ih => have := bulk_pos x; simp only [Rows.uptoBulkAll, List.length_cons]; omega
theorem bulk_slice {H : Type} (a b : List (DataW H)) : a.length ≤ Rows.uptoBulk (.slice a b) := by
  have := bulk_len a
  simp only [Rows.uptoBulk]
  omega
theorem bulk_two {H : Type} {a d : DataW H} (hk : Rows.uptoSmall H [a, d] = true) : Rows.uptoBulk d ≤ 1048576 := by
  have h : Rows.uptoBulkAll [a, d] ≤ 1048576 := of_decide_eq_true hk
  simp only [Rows.uptoBulkAll] at h
  omega
def natAt : Option Value → Nat
  | some (.int _ n) => n.toNat
  | _ => 0
set_option maxRecDepth 100000 in
/-- A SLICE OF EDGES THAT CAME IN. -/
theorem open_edges {H : Type} {enc : TypeId × Value → H} {W : World} {base : Nat} {sp : Nat → Bool} {held : Bool} {a : Option Addr} {len cap : Nat} {d : DataW H} {ps : List MemPlace} (h : DataW.Trod enc Try.prog W base sp held 22 (.slice a len cap) d ps) :
    ∃ l : List (Nat × Nat), l.length = len ∧ len ≤ Rows.uptoBulk d ∧ (a = none → len = 0 ∧ cap = 0) ∧ edg.EdgIs W a l := by
  obtain ⟨fuel, hf⟩ := h
  rcases DataW.trod_slice Try.underlying22 hf with ⟨hcs, _⟩ | ⟨ad, l', c', elems, rest, n, _, hcs, hd, hb, hl, hm, hlen, hel, _, _⟩
  · simp [Value.cells] at hcs
    obtain ⟨rfl, rfl, rfl⟩ := hcs
    exact ⟨[], rfl, Nat.zero_le _, fun _ => ⟨rfl, rfl⟩, fun k hk => by simp at hk⟩
  · simp [Value.cells] at hcs
    obtain ⟨rfl, rfl, rfl⟩ := hcs
    have hbulk : len ≤ Rows.uptoBulk d := by
      injection hd with hd _
      rw [hd]
      have h := bulk_slice (elems.map (·.1)) (rest.map (·.1))
      rw [List.length_map] at h
      omega
    have each : ∀ i, i < len → ∃ f t : Nat, W.cell? (ad.add (i * 2)) = some (.int .u32 (f : Int)) ∧ W.cell? (ad.add (i * 2 + 1)) = some (.int .u32 (t : Int)) ∧ f < 4294967296 ∧ t < 4294967296 := by
      intro i hi
      have he := hel i hi
      rw [ce, List.getElem?_eq_getElem (by omega), Option.bind_eq_some_iff] at he
      obtain ⟨cs, hc, ht⟩ := he
      obtain ⟨_, hcl, hcell⟩ := World.cells?_some hc
      obtain ⟨y0, y1, m, _, _, h0, h1⟩ := trod_struct2 Try.underlying37 ht
      match cs, hcl with
      | [v0, v1], _ =>
        simp [c4] at h0 h1
        obtain ⟨f, rfl, hf4⟩ := u32_of_trod Try.underlying35 h0
        obtain ⟨t, rfl, ht4⟩ := u32_of_trod Try.underlying35 h1
        have q0 := hcell 0 (by decide)
        have q1 := hcell 1 (by decide)
        refine ⟨f, t, ?_, ?_, hf4, ht4⟩
        · rw [add_zero] at q0; simpa using q0
        · rw [add_one] at q1; simpa using q1
    by_cases h0 : len = 0
    · subst h0
      exact ⟨[], rfl, Nat.zero_le _, (fun e => by cases e), fun k hk => by simp at hk⟩
    · obtain ⟨g, o, s⟩ := ad
      obtain ⟨f0, _, z0, _⟩ := each 0 (by omega)
      rw [Nat.zero_mul, add_zero] at z0
      have hs := spot_none z0
      subst hs
      refine ⟨(List.range len).map fun i => (natAt (W.cell? ⟨g, o + i * 2, none⟩), natAt (W.cell? ⟨g, o + i * 2 + 1, none⟩)), by simp, hbulk, fun e => (by cases e), fun k hk => ?_⟩
      have hk' : k < len := by simpa using hk
      obtain ⟨f, t, q0, q1, hf4, ht4⟩ := each k hk'
      rw [Addr.add_lit] at q0 q1
      rw [← Nat.add_assoc] at q1
      refine ⟨g, o, rfl, World.block_lt_of_cell? _ _ q0, ?_, ?_, ?_, ?_⟩
      · simp only [List.getElem_map, List.getElem_range]
        rw [q0]
        simp [natAt]
      · simp only [List.getElem_map, List.getElem_range]
        rw [q1]
        simp [natAt]
      · simp only [List.getElem_map, List.getElem_range]
        rw [q0]
        simpa [natAt] using hf4
      · simp only [List.getElem_map, List.getElem_range]
        rw [q1]
        simpa [natAt] using ht4

set_option maxRecDepth 100000 in
theorem contract (H : Type) (enc : TypeId × Value → H) (W : World) (base : Nat) (args : Array Value) (ds gs : List (DataW H)) (before : List MemPlace)
    (hval0 : ∀ (j : Nat) t v, Try.f4.params[j]? = some t → args[j]? = some v → Value.okWide Try.prog W .any base t v)
    (hW : DataW.Whole enc Try.prog Try.f4.params.toList Rows.edgesShownSpec.vars false W args.toList ds gs before) (hk : Rows.uptoSmall H (ds ++ gs) = true) :
    Calls Try.prog 4 args W fun e W' => ∃ v, e = .returned v ∧ Rows.edgesShownSpec.post enc Try.prog Try.f4 false true false false W args v W' := by
  have hval : ∀ (j : Nat) t v, Try.f4.params[j]? = some t → args[j]? = some v → Value.okWide Try.prog W .any base t v := hval0
  have hW' := hW
  obtain ⟨p, q, hA0, hV, rfl, hfz, hnd⟩ := hW
  have hA : DataW.TrodAll enc Try.prog W 0 (fun _ => true) true Try.f4.params.toList args.toList ds p := hA0
  rw [Try.params4] at hA hval
  obtain ⟨v0, vs0, d0, ds0, p0, q0, hargs, rfl, rfl, h0, r0⟩ := trodAll_cons hA
  obtain ⟨v1, vs1, d1, ds1, p1, q1, rfl, rfl, rfl, h1, r1⟩ := trodAll_cons r0
  obtain ⟨rfl, rfl, rfl⟩ := trodAll_nil r1
  obtain rfl : args = #[v0, v1] := by cases args; simp_all
  obtain ⟨rfl, rfl⟩ := trodVars_none hV
  obtain ⟨a0, rfl, rfl, rfl, w0⟩ := open_int Try.underlying3 (hval 0 3 v0 rfl rfl) h0
  obtain ⟨a1, len1, cap1, rfl⟩ := okWide_slice Try.underlying22 (hval 1 22 v1 rfl rfl)
  have k1 := h1
  have lt1 : ∀ x ∈ p1, x.block < W.heap.size := by obtain ⟨m, hm⟩ := k1; exact DataW.trod_lt m _ _ _ hm
  obtain ⟨l, rfl, hll, hnil, hl⟩ := open_edges h1
  have hb := bulk_two hk
  clear hA0 hval0
  refine (edg.edgesShown_walk a0 a1 l cap1 hnil W hl (by omega)).mono fun e W' ⟨he, bel⟩ => ?_
  subst he
  exact ⟨_, rfl, _, _, _, [], _, [], hW', trodAll_mk1 (shut_bool Try.underlying4 _), (trodAll_cons_mk (shut_int Try.underlying3 w0) (trodAll_cons_mk (Below.trod laidOut (by kernel_rfl) (of_decide_eq_true (by kernel_rfl)) k1 bel lt1) trodAll_mk0)), rfl, bel.frame _, fun h => by cases h⟩

set_option maxRecDepth 100000 in
theorem lifted (os : Os) (started : os.Started) (H : Type) (enc : TypeId × Value → H) (F : Stop.Interp) :
    ReturnsInHanded {} Try.checked os 4 .any ((Rows.OpenSpec.upto Rows.edgesShownSpec).pre6 enc Try.prog Try.f4 Rows.edgesShownUptoRow.domain false) (((Rows.OpenSpec.upto Rows.edgesShownSpec).at F).post enc Try.prog Try.f4 false true false false) := by
  refine returnsInHanded_of_cond (C := Try.checked) (s := Rows.OpenSpec.upto Rows.edgesShownSpec) (k := Rows.uptoSmall) rfl own started (by kernel_rfl) Try.func4
    (OpenSpec.witness (enc := enc) (C := Try.checked) (s := Rows.OpenSpec.upto Rows.edgesShownSpec) (k := Rows.uptoSmall) rfl false ⟨#[], #[.int .i64 0, .slice none 0 0], []⟩ 8 (by kernel_rfl) (by kernel_rfl) (by kernel_rfl)
      (x := ([.lit (.int .i64 0), .nil], [], [])) (by kernel_rfl) rfl (by kernel_rfl)) ?_
  intro W base args ds gs before hval hW _ hk _
  exact contract H enc W base args ds gs before hval hW hk

theorem over : Rows.EdgesShownUptoSaid :=
  OpenClaim.holds_of_cond 4 Try.f4 rfl rfl rfl rfl rfl rfl rfl ⟨rfl, rfl, rfl, rfl, rfl⟩ rfl rfl rfl rfl rfl (by kernel_rfl) Try.func4 (by kernel_rfl)
    (of_decide_eq_true (by kernel_rfl)) (by unfold Func.isWrapper; first | (rw [if_pos (by decide +kernel)]; kernel_rfl) | (rw [if_neg (by decide +kernel)]; exact ⟨rfl, rfl⟩))
    (fun os started H enc _ F => lifted os started H enc F)

/-- ████ THE STATEMENT ████ -/
theorem proved : Rows.EdgesShownUptoSaid := over
end Go.Proofs.Ythaicpbdlhkkkaa.edgesShown
