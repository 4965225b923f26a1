/- Own lemmas, laid together. -/
import Derived.Test.YtflnpcgnenhogaaGreatDoorBk31
import Derived.Test.YtflnpcgnenhogaaGreatDoorBk26
import Derived.Test.YtflnpcgnenhogaaGreatDoorBk25
import Derived.OpenShut
import Derived.Deep.DeepHandedRow
namespace Go.Proofs.YtflnpcgnenhogaaGreatDoor.ls
open Go.ChangeShapes Go.WideShapes Go.ChangeAt Go.RowKit

theorem b_u32s : Tryz.prog.bytesOf 34 = 24 := by kernel_rfl
theorem c_bpar : Tryz.prog.cellsOf 56 = 5 := by kernel_rfl
set_option maxRecDepth 100000 in
/-- lists that came in, opened -/
theorem lists_open {H : Type} {enc : TypeId × Value → H} {W : World} {a : Option Addr} {len cap : Nat} {d : DataW H} {p : List MemPlace} (h : DataW.Trod enc Tryz.prog W 0 (fun _ => true) true 54 (.slice a len cap) d p)
  (hs : ∀ n ∈ d.weights Tryz.prog 54, n ≤ reachBytes) : ∃ G : List (List Nat), G.length = len ∧ len ≤ cap ∧ len ≤ 4611686018427387903 ∧ LLs W a G ∧ ∀ l ∈ G, l.length < 35184372088832 := by
 obtain ⟨fuel, hf⟩ := h
 rcases DataW.trod_slice Tryz.underlying54 hf with ⟨hcs, _⟩ | ⟨ad, l', c', elems, rest, n, _, hcs, hx, hb, hl, hm, hlen, hel, _, _⟩
 ·simp [Value.cells] at hcs
  obtain ⟨rfl, rfl, rfl⟩ := hcs
  exact ⟨[], rfl, Nat.le_refl _, Nat.zero_le _, ⟨Nat.zero_le _, fun k hk => by simp at hk⟩, fun o ho => by cases ho⟩
 ·simp [Value.cells] at hcs
  obtain ⟨rfl, rfl, rfl⟩ := hcs
  obtain ⟨hd, _⟩ := Prod.mk.inj hx
  subst hd
  rw [DataW.weights, Tryz.underlying54] at hs
  have hl6 : len ≤ 4611686018427387903 := by
   have h9 := hs _ (List.mem_cons_self ..)
   rw [b_u32s, List.length_map, hlen] at h9
   have := reachBytes_lt
   have e : (2 : Nat) ^ 47 = 140737488355328 := by decide
   have h3 : len * 24 ≤ (len + (rest.map (·.1)).length) * 24 := Nat.mul_le_mul_right _ (Nat.le_add_right _ _)
   omega
  have each : ∀ i : Nat, ∃ q : List Nat × Option Addr × Nat, (i < len → W.cell? (ad.add i) = some (.slice q.2.1 q.1.length q.2.2) ∧ q.1.length ≤ q.2.2 ∧ LV W q.2.1 q.1) ∧ q.1.length < 35184372088832 := by
   intro i
   by_cases hi : i < len
   ·have he := hel i hi
    rw [c_u32s, List.getElem?_eq_getElem (by omega), Option.bind_eq_some_iff] at he
    obtain ⟨cs, hc, ht⟩ := he
    obtain ⟨_, hcl, hcell⟩ := World.cells?_some hc
    have hw : ∀ n ∈ (elems[i]'(by omega)).1.weights Tryz.prog 34, n ≤ reachBytes := fun n hn => hs n (List.mem_cons_of_mem _ (List.mem_append_left _ (weights_all (List.mem_map_of_mem (List.getElem_mem _)) n hn)))
    match cs, hcl, ht, hcell with
    | [v0], _, ht, hcell =>
     obtain ⟨s, l, c, rfl, h1, h2, h3⟩ := u32s_open ht hw
     refine ⟨(l, s, c), fun _ => ⟨?_, h1, h2⟩, h3⟩
     have h9 := hcell 0 (by decide)
     rw [Nat.mul_one] at h9
     rw [show ad.add i = (ad.add i).add 0 from by unfold Addr.add; by_cases q1 : i = 0 <;> simp [q1]]
     exact h9
   ·exact ⟨([], none, 0), fun h => absurd h hi, by decide⟩
  obtain ⟨f, hff⟩ := Classical.axiomOfChoice each
  refine ⟨(List.range len).map (fun i => (f i).1), by simp, hl, hl6, ⟨by simpa using hl6, fun i hi => ?_⟩, fun o ho => by obtain ⟨i, _, rfl⟩ := List.mem_map.1 ho; exact (hff i).2⟩
  have hi' : i < len := by simpa using hi
  obtain ⟨h1, h2, h3⟩ := (hff i).1 hi'
  obtain ⟨g, o, s⟩ := ad
  have h0 := ((hff 0).1 (by omega)).1
  have hsn : s = none := by
   have := World.cell?_spot h0
   simpa [Addr.add] using this
  subst hsn
  rw [Addr.add_lit] at h1
  refine ⟨g, o, (f i).2.1, (f i).2.2, rfl, World.block_lt_of_cell? _ _ h1, ?_, ?_, ?_⟩
  ·rw [h1]; simp
  ·simpa using h2
  ·simpa using h3
set_option maxRecDepth 100000 in
/-- Params that came in: five integers. -/
theorem bp_open {H : Type} {enc : TypeId × Value → H} {w : World} {base b0 : Nat} {r : Reach} {sp : Nat → Bool} {held : Bool} {v : Value} {d : DataW H} {ps : List MemPlace} (hv : Value.okWide Tryz.prog w r b0 56 v) (hd : DataW.Trod enc Tryz.prog w base sp held 56 v d ps) :
  ∃ a d i z c : Int, v = bpV a d i z c := by
 obtain ⟨cs, rfl, hz⟩ := okWide_struct Tryz.underlying56 hv
 rw [c_bpar] at hz
 obtain ⟨fuel, hf⟩ := hd
 obtain ⟨l⟩ := cs
 match l, hz with
 | [v0, v1, v2, v3, v4], _ =>
  obtain ⟨xs, n, _, _, _, hlen, hf⟩ := DataW.trod_struct Tryz.underlying56 hf
  match xs, hlen with
  | [y0, y1, y2, y3, y4], _ =>
   have h0 := hf 0 _ rfl
   have h1 := hf 1 _ rfl
   have h2 := hf 2 _ rfl
   have h3 := hf 3 _ rfl
   have h4 := hf 4 _ rfl
   simp [c_int] at h0 h1 h2 h3 h4
   obtain ⟨m0, rfl, _⟩ := int_of_trod Tryz.underlying3 h0
   obtain ⟨m1, rfl, _⟩ := int_of_trod Tryz.underlying3 h1
   obtain ⟨m2, rfl, _⟩ := int_of_trod Tryz.underlying3 h2
   obtain ⟨m3, rfl, _⟩ := int_of_trod Tryz.underlying3 h3
   obtain ⟨m4, rfl, _⟩ := int_of_trod Tryz.underlying3 h4
   exact ⟨m0, m1, m2, m3, m4, rfl⟩
end Go.Proofs.YtflnpcgnenhogaaGreatDoor.ls
