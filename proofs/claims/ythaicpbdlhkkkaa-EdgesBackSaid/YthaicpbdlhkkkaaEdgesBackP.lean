/- The proof of the statement EdgesBackSaid: the walk of the law (another text) laid into the row, for every input. -/
import Derived.Test.YthaicpbdlhkkkaaEdgBack
import Derived.WalkKit
import Derived.ProofKit
import Derived.OpenShut
import Derived.ShutString
import Derived.ChangeOld
import Derived.ChangeSame
import Derived.SliceStrings
import Derived.DataReads
import Derived.Below
namespace Go.Proofs.Ythaicpbdlhkkkaa.edgesBack
open Go.ChangeShapes Go.WideShapes Go.ChangeAt Go.RowKit
open Go.ChangeMaps (open_string shut_string)
set_option linter.unusedVariables false

theorem own : ownKnob Try.prog.godebug = none := by kernel_rfl
theorem laidOut : laidOutB Try.prog = true := by kernel_rfl
theorem ce : Try.prog.cellsOf 37 = 2 := by kernel_rfl
theorem c4 : Try.prog.cellsOf 35 = 1 := by kernel_rfl

theorem wf_u32 {n : Int} (h : (Lit.int .u32 n).wf = true) : 0 ≤ n ∧ n ≤ 4294967295 := by
  simp only [Lit.wf, IntKind.min, IntKind.max, IntKind.signed, IntKind.bits, Bool.and_eq_true, decide_eq_true_eq, Bool.false_eq_true, if_false] at h
  omega
theorem wf_u16 {n : Int} (h : (Lit.int .u16 n).wf = true) : 0 ≤ n ∧ n ≤ 65535 := by
  simp only [Lit.wf, IntKind.min, IntKind.max, IntKind.signed, IntKind.bits, Bool.and_eq_true, decide_eq_true_eq, Bool.false_eq_true, if_false] at h
  omega
theorem u32_of_trod {H : Type} {enc : TypeId × Value → H} {P : Program} {w : World} {base : Nat} {sp : Nat → Bool} {held : Bool} {fuel : Nat} {t : TypeId} {c : Value} {y : DataW H × List MemPlace}
    (ht : P.underlying t = some (.int .u32)) (h : DataW.trod enc P w base sp held fuel t [c] = some y) : ∃ n : Nat, c = .int .u32 (n : Int) ∧ n < 4294967296 := by
  cases fuel with
  | zero => simp [DataW.trod] at h
  | succ fuel =>
    cases c <;> simp [DataW.trod, ht] at h
    rename_i k' n
    obtain ⟨⟨rfl, hw⟩, _⟩ := h
    have := wf_u32 hw
    exact ⟨n.toNat, by congr 1; omega, by omega⟩
theorem spot_none {w : World} {g o : Nat} {sp : Option Nat} {v : Value} (h : w.cell? ⟨g, o, sp⟩ = some v) : sp = none := by
  unfold World.cell? at h
  split at h
  · cases sp with
    | none => rfl
    | some x => simp at h
  · cases h
theorem add_zero (a : Addr) : a.add 0 = a := by simp [Addr.add]
theorem add_one (a : Addr) (m : Nat) : (a.add m).add 1 = a.add (m + 1) := by
  unfold Addr.add
  by_cases h : m = 0
  · subst h; simp
  · simp [h, Nat.add_assoc]
def natAt : Option Value → Nat
  | some (.int _ n) => n.toNat
  | _ => 0
set_option maxRecDepth 100000 in
/-- A SLICE OF EDGES THAT CAME IN. -/
theorem open_edges {H : Type} {enc : TypeId × Value → H} {W : World} {base : Nat} {sp : Nat → Bool} {held : Bool} {a : Option Addr} {len cap : Nat} {d : DataW H} {ps : List MemPlace} (h : DataW.Trod enc Try.prog W base sp held 22 (.slice a len cap) d ps) :
    ∃ l : List (Nat × Nat), l.length = len ∧ len ≤ 9223372036854775807 ∧ edg.EdgIs W a l := by
  obtain ⟨fuel, hf⟩ := h
  rcases DataW.trod_slice Try.underlying22 hf with ⟨hcs, _⟩ | ⟨ad, l', c', elems, rest, n, _, hcs, _, hb, hl, hm, hlen, hel, _, _⟩
  · simp [Value.cells] at hcs
    obtain ⟨rfl, rfl, rfl⟩ := hcs
    exact ⟨[], rfl, Nat.zero_le _, fun k hk => by simp at hk⟩
  · simp [Value.cells] at hcs
    obtain ⟨rfl, rfl, rfl⟩ := hcs
    have each : ∀ i, i < len → ∃ f t : Nat, W.cell? (ad.add (i * 2)) = some (.int .u32 (f : Int)) ∧ W.cell? (ad.add (i * 2 + 1)) = some (.int .u32 (t : Int)) ∧ f < 4294967296 ∧ t < 4294967296 := by
      intro i hi
      have he := hel i hi
      rw [ce, List.getElem?_eq_getElem (by omega), Option.bind_eq_some_iff] at he
      obtain ⟨cs, hc, ht⟩ := he
      obtain ⟨_, hcl, hcell⟩ := World.cells?_some hc
      obtain ⟨y0, y1, m, _, _, h0, h1⟩ := trod_struct2 Try.underlying37 ht
      match cs, hcl with
      | [v0, v1], _ =>
        simp [c4] at h0 h1
        obtain ⟨f, rfl, hf4⟩ := u32_of_trod Try.underlying35 h0
        obtain ⟨t, rfl, ht4⟩ := u32_of_trod Try.underlying35 h1
        have q0 := hcell 0 (by decide)
        have q1 := hcell 1 (by decide)
        refine ⟨f, t, ?_, ?_, hf4, ht4⟩
        · rw [add_zero] at q0; simpa using q0
        · rw [add_one] at q1; simpa using q1
    by_cases h0 : len = 0
    · subst h0
      exact ⟨[], rfl, Nat.zero_le _, fun k hk => by simp at hk⟩
    · obtain ⟨g, o, s⟩ := ad
      obtain ⟨f0, _, z0, _⟩ := each 0 (by omega)
      rw [Nat.zero_mul, add_zero] at z0
      have hs := spot_none z0
      subst hs
      refine ⟨(List.range len).map fun i => (natAt (W.cell? ⟨g, o + i * 2, none⟩), natAt (W.cell? ⟨g, o + i * 2 + 1, none⟩)), by simp, by simp only [maxLen] at hm; omega, fun k hk => ?_⟩
      have hk' : k < len := by simpa using hk
      obtain ⟨f, t, q0, q1, hf4, ht4⟩ := each k hk'
      rw [Addr.add_lit] at q0 q1
      rw [← Nat.add_assoc] at q1
      refine ⟨g, o, rfl, World.block_lt_of_cell? _ _ q0, ?_, ?_, ?_, ?_⟩
      · simp only [List.getElem_map, List.getElem_range]
        rw [q0]
        simp [natAt]
      · simp only [List.getElem_map, List.getElem_range]
        rw [q1]
        simp [natAt]
      · simp only [List.getElem_map, List.getElem_range]
        rw [q0]
        simpa [natAt] using hf4
      · simp only [List.getElem_map, List.getElem_range]
        rw [q1]
        simpa [natAt] using ht4
/-- A SLICE OF TEXTS THAT CAME IN. -/
theorem open_texts {H : Type} {enc : TypeId × Value → H} {W : World} {base : Nat} {sp : Nat → Bool} {held : Bool} {a : Option Addr} {len cap : Nat} {d : DataW H} {ps : List MemPlace} (h : DataW.Trod enc Try.prog W base sp held 50 (.slice a len cap) d ps) :
    ∃ bs : List ByteArray, bs.length = len ∧ edg.StrIs W a bs := by
  obtain ⟨fuel, hf⟩ := h
  rcases open_strings Try.underlying50 Try.underlying9 (by kernel_rfl) hf with ⟨hcs, _⟩ | ⟨ad, l', c', ss, hcs, hb, hl, hm, hz, _, hcell, hss⟩
  · simp [Value.cells] at hcs
    obtain ⟨rfl, rfl, rfl⟩ := hcs
    exact ⟨[], rfl, fun k hk => by simp at hk⟩
  · simp [Value.cells] at hcs
    obtain ⟨rfl, rfl, rfl⟩ := hcs
    have hz2 : len ≤ ss.length := by rw [hz]; split <;> omega
    by_cases h0 : len = 0
    · subst h0
      exact ⟨[], rfl, fun k hk => by simp at hk⟩
    · obtain ⟨g, o, s⟩ := ad
      have z0 := hcell 0 (by omega)
      rw [add_zero] at z0
      have hs := spot_none z0
      subst hs
      refine ⟨ss.take len, by rw [List.length_take]; omega, fun k hk => ?_⟩
      have hk' : k < len := by rw [List.length_take] at hk; omega
      have q := hcell k (by omega)
      rw [Addr.add_lit] at q
      have e : ss.getD k ByteArray.empty = (ss.take len)[k] := by simp [List.getD, show k < ss.length by omega]
      refine ⟨g, o, rfl, World.block_lt_of_cell? _ _ q, by rw [← e]; exact q, ?_⟩
      have := hss _ (List.mem_of_mem_take (List.getElem_mem hk))
      simpa [maxLen] using this

set_option maxRecDepth 100000 in
theorem lifted (os : Os) (started : os.Started) (H : Type) (enc : TypeId × Value → H) :
    ReturnsInHanded {} Try.checked os 5 .any (Rows.edgesBackSpec.pre6 enc Try.prog Try.f5 Rows.edgesBackRow.domain false) (Rows.edgesBackSpec.post enc Try.prog Try.f5 false true false false) := by
  refine returnsInHanded_of_change (C := Try.checked) own started (by kernel_rfl) Try.func5
    (ChangeSpec.witness6 (enc := enc) (C := Try.checked) false ⟨#[], #[.int .u16 0, .slice none 0 0, .slice none 0 0], []⟩ 8 (by kernel_rfl) (by kernel_rfl) (by kernel_rfl) (by kernel_rfl)) ?_
  intro W base args ds gs before hval0 hW hcnd _
  have hval : ∀ (j : Nat) t v, Try.f5.params[j]? = some t → args[j]? = some v → Value.okWide Try.prog W .any base t v := hval0
  have hW' := hW
  obtain ⟨p, q, hA0, hV, rfl, hfz, hnd⟩ := hW
  have hA : DataW.TrodAll enc Try.prog W 0 (fun _ => true) true Try.f5.params.toList args.toList ds p := hA0
  rw [Try.params5] at hA hval
  obtain ⟨v0, vs0, d0, ds0, p0, q0, hargs, rfl, rfl, h0, r0⟩ := trodAll_cons hA
  obtain ⟨v1, vs1, d1, ds1, p1, q1, rfl, rfl, rfl, h1, r1⟩ := trodAll_cons r0
  obtain ⟨v2, vs2, d2, ds2, p2, q2, rfl, rfl, rfl, h2, r2⟩ := trodAll_cons r1
  obtain ⟨rfl, rfl, rfl⟩ := trodAll_nil r2
  obtain rfl : args = #[v0, v1, v2] := by cases args; simp_all
  obtain ⟨rfl, rfl⟩ := trodVars_none hV
  obtain ⟨a0, rfl, rfl, rfl, w0⟩ := open_int Try.underlying49 (hval 0 49 v0 rfl rfl) h0
  obtain ⟨a1, len1, cap1, rfl⟩ := okWide_slice Try.underlying22 (hval 1 22 v1 rfl rfl)
  obtain ⟨a2, len2, cap2, rfl⟩ := okWide_slice Try.underlying50 (hval 2 50 v2 rfl rfl)
  have k1 := h1
  have k2 := h2
  have lt1 : ∀ x ∈ p1, x.block < W.heap.size := by obtain ⟨m, hm⟩ := k1; exact DataW.trod_lt m _ _ _ hm
  have lt2 : ∀ x ∈ p2, x.block < W.heap.size := by obtain ⟨m, hm⟩ := k2; exact DataW.trod_lt m _ _ _ hm
  obtain ⟨l, rfl, hll, hl⟩ := open_edges h1
  obtain ⟨bs, rfl, hb⟩ := open_texts h2
  have hu := wf_u16 w0
  obtain ⟨kn, rfl⟩ := Int.eq_ofNat_of_zero_le hu.1
  clear hA0 hval0
  refine (edg.edgesBack_walk kn (by omega) a1 l cap1 a2 bs cap2 W hl hll hb).mono fun e W' ⟨he, bel⟩ => ?_
  subst he
  exact ⟨_, rfl, _, _, _, [], _, [], hW', trodAll_mk1 (shut_bool Try.underlying4 _), (trodAll_cons_mk (shut_int Try.underlying49 w0) (trodAll_cons_mk (Below.trod laidOut (by kernel_rfl) (of_decide_eq_true (by kernel_rfl)) k1 bel lt1) (trodAll_cons_mk (Below.trod laidOut (by kernel_rfl) (of_decide_eq_true (by kernel_rfl)) k2 bel lt2) trodAll_mk0))), rfl, bel.frame _, fun h => by cases h⟩

theorem over : Rows.edgesBackRow.holds Try.pinned (OpenSpec.ofChange Rows.edgesBackSpec) :=
  OpenClaim.holds_of_wide 5 Try.f5 rfl rfl rfl rfl rfl rfl rfl ⟨rfl, rfl, rfl, rfl, rfl⟩ rfl rfl rfl rfl rfl (by kernel_rfl) Try.func5 (by kernel_rfl)
    (of_decide_eq_true (by kernel_rfl)) (by unfold Func.isWrapper; first | (rw [if_pos (by decide +kernel)]; kernel_rfl) | (rw [if_neg (by decide +kernel)]; exact ⟨rfl, rfl⟩))
    (fun os started H enc _ => lifted os started H enc)

/-- ████ THE STATEMENT ████ -/
theorem proved : Rows.EdgesBackSaid := over
end Go.Proofs.Ythaicpbdlhkkkaa.edgesBack
