/- Own lemmas, laid together. -/
import Derived.Test.YtflnpcgnenhogaaGreatDoorDk31
import Derived.Test.YtflnpcgnenhogaaGreatDoorDk32
namespace Go.Proofs.YtflnpcgnenhogaaGreatDoor.ls
open Go.ChangeShapes Go.WideShapes Go.ChangeAt Go.RowKit

theorem c_ask : Tryz.prog.cellsOf 38 = 9 := by kernel_rfl
theorem c_hd13 : Tryz.prog.cellsOf 33 = 2 := by kernel_rfl
theorem c_par13 : Tryz.prog.cellsOf 36 = 3 := by kernel_rfl
theorem c_u32s13 : Tryz.prog.cellsOf 34 = 1 := by kernel_rfl
theorem c_int13 : Tryz.prog.cellsOf 3 = 1 := by kernel_rfl
theorem c_bool13 : Tryz.prog.cellsOf 4 = 1 := by kernel_rfl
theorem b_ask : Tryz.prog.bytesOf 38 = 88 := by kernel_rfl
set_option maxRecDepth 100000 in
/-- Askeds that came in, opened -/
theorem asks_open {H : Type} {enc : TypeId × Value → H} {W : World} {a : Option Addr} {len cap : Nat} {d : DataW H} {p : List MemPlace} (h : DataW.Trod enc Tryz.prog W 0 (fun _ => true) true 22 (.slice a len cap) d p)
  (hs : ∀ n ∈ d.weights Tryz.prog 22, n ≤ reachBytes) : ∃ L : List Ask, L.length = len ∧ len ≤ cap ∧ len ≤ 4611686018427387903 ∧ AkL W a L := by
 obtain ⟨fuel, hf⟩ := h
 rcases DataW.trod_slice Tryz.underlying22 hf with ⟨hcs, _⟩ | ⟨ad, l', c', elems, rest, n, _, hcs, hx, hb, hl, hm, hlen, hel, _, _⟩
 ·simp [Value.cells] at hcs
  obtain ⟨rfl, rfl, rfl⟩ := hcs
  exact ⟨[], rfl, Nat.le_refl _, Nat.zero_le _, fun k hk => by simp at hk⟩
 ·simp [Value.cells] at hcs
  obtain ⟨rfl, rfl, rfl⟩ := hcs
  obtain ⟨hd, _⟩ := Prod.mk.inj hx
  subst hd
  rw [DataW.weights, Tryz.underlying22] at hs
  have hl6 : len ≤ 4611686018427387903 := by
   have h9 := hs _ (List.mem_cons_self ..)
   rw [b_ask, List.length_map, hlen] at h9
   have := reachBytes_lt
   have e : (2 : Nat) ^ 47 = 140737488355328 := by decide
   have h3 : len * 88 ≤ (len + (rest.map (·.1)).length) * 88 := Nat.mul_le_mul_right _ (Nat.le_add_right _ _)
   omega
  have each : ∀ i : Nat, ∃ o : Ask, i < len → (∀ k, k < 9 → W.cell? (ad.add (i * 9 + k)) = o.cells[k]?) ∧ o.In W := by
   intro i
   by_cases hi : i < len
   ·have he := hel i hi
    rw [c_ask, List.getElem?_eq_getElem (by omega), Option.bind_eq_some_iff] at he
    obtain ⟨cs, hc, ht⟩ := he
    obtain ⟨_, hcl, hcell⟩ := World.cells?_some hc
    have hw : ∀ n ∈ (elems[i]'(by omega)).1.weights Tryz.prog 38, n ≤ reachBytes := fun n hn => hs n (List.mem_cons_of_mem _ (List.mem_append_left _ (weights_all (List.mem_map_of_mem (List.getElem_mem _)) n hn)))
    obtain ⟨xs, m, _, hx, _, hxl, hg⟩ := DataW.trod_struct Tryz.underlying38 ht
    rw [hx, DataW.weights, Tryz.underlying38] at hw
    match cs, hcl with
    | [v0, v1, v2, v3, v4, v5, v6, v7, v8], _ =>
     match xs, hxl with
     | [y0, y1, y2, y3, y4, y5], _ =>
      have h0 := hg 0 _ rfl
      have h1 := hg 1 _ rfl
      have h2 := hg 2 _ rfl
      have h3 := hg 3 _ rfl
      have h4 := hg 4 _ rfl
      have h5 := hg 5 _ rfl
      simp [c_u32s13, c_int13, c_par13, c_hd13, c_bool13] at h0 h1 h2 h3 h4 h5
      obtain ⟨X, rfl, _⟩ := int_of_trod Tryz.underlying3 h0
      obtain ⟨N, rfl, _⟩ := int_of_trod Tryz.underlying3 h1
      obtain ⟨bw, e2, _⟩ := DataW.trod_bool Tryz.underlying4 h2
      injection e2 with e2
      subst e2
      obtain ⟨ra, ref, rc, rfl, hr1, hr2, hr3⟩ := u32s_open h4 (fun n hn => hw n (DataW.weights_mem_each (j := 4) rfl rfl n hn))
      obtain ⟨xs3, m3, _, _, _, hx3, hg3⟩ := DataW.trod_struct Tryz.underlying33 h3
      obtain ⟨xs4, m4, _, _, _, hx4, hg4⟩ := DataW.trod_struct Tryz.underlying36 h5
      match xs3, hx3 with
      | [z0, z1], _ =>
       have k0 := hg3 0 _ rfl
       have k1 := hg3 1 _ rfl
       simp [c_int13] at k0 k1
       obtain ⟨DD, rfl, _⟩ := int_of_trod Tryz.underlying3 k0
       obtain ⟨RR, rfl, _⟩ := int_of_trod Tryz.underlying3 k1
       match xs4, hx4 with
       | [z0, z1, z2], _ =>
        have k0 := hg4 0 _ rfl
        have k1 := hg4 1 _ rfl
        have k2 := hg4 2 _ rfl
        simp [c_int13] at k0 k1 k2
        obtain ⟨win, rfl, _⟩ := int_of_trod Tryz.underlying3 k0
        obtain ⟨itv, rfl, _⟩ := int_of_trod Tryz.underlying3 k1
        obtain ⟨zet, rfl, _⟩ := int_of_trod Tryz.underlying3 k2
        refine ⟨⟨X, N, bw, DD, RR, ra, ref, rc, win, itv, zet⟩, fun _ => ⟨fun k hk => ?_, hr2, hr1, hr3⟩⟩
        have h9 := hcell k (by simpa using hk)
        rw [show ad.add (i * 9 + k) = (ad.add (i * 9)).add k from by
         unfold Addr.add
         by_cases q1 : i * 9 = 0 <;> by_cases q2 : k = 0 <;> simp [q1, q2, Nat.add_assoc]]
        exact h9
   ·exact ⟨⟨0, 0, false, 0, 0, none, [], 0, 0, 0, 0⟩, fun h => absurd h hi⟩
  obtain ⟨f, hff⟩ := Classical.axiomOfChoice each
  refine ⟨(List.range len).map f, by simp, hl, hl6, fun i hi => ?_⟩
  have hi' : i < len := by simpa using hi
  obtain ⟨h1, h2⟩ := (hff i) hi'
  obtain ⟨g, o, s⟩ := ad
  have h0 := ((hff 0) (by omega)).1 0 (by decide)
  have hsn : s = none := by
   have := World.cell?_spot (h0.trans (by rfl))
   simpa [Addr.add] using this
  subst hsn
  have hc : ∀ k, k < 9 → W.cell? ⟨g, o + 9 * i + k, none⟩ = (f i).cells[k]? := fun k hk => by
   have := h1 k hk
   rw [Addr.add_lit] at this
   rw [← this]
   congr 2
   omega
  refine ⟨g, o, rfl, World.block_lt_of_cell? _ _ ((hc 0 (by decide)).trans rfl), fun k hk => ?_, ?_⟩
  ·rw [hc k hk]
   simp
  ·simpa using h2
end Go.Proofs.YtflnpcgnenhogaaGreatDoor.ls
