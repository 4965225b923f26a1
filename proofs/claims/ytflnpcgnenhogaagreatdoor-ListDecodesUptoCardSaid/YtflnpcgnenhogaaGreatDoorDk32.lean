/- Own lemmas, laid together. -/
import Derived.Test.YtflnpcgnenhogaaGreatDoorDk29
import Derived.WalkKit
import Derived.ProofKit
import Derived.OpenShut
import Derived.ChangeSame
import Derived.Lib.LaidTab
import Derived.ChangeOld
import Derived.ChangeSlices
import Derived.ChangeMaps5
import Derived.Below
import Derived.SizedLaws
import Derived.Deep.Strs
namespace Go.Proofs.YtflnpcgnenhogaaGreatDoor.ls
open Go.ChangeShapes Go.WideShapes Go.ChangeAt Go.RowKit

theorem int_of_trod {H : Type} {enc : TypeId × Value → H} {P : Program} {w : World} {base : Nat} {sp : Nat → Bool} {held : Bool} {fuel : Nat} {t : TypeId} {k : IntKind} {c : Value} {y : DataW H × List MemPlace}
  (ht : P.underlying t = some (.int k)) (h : DataW.trod enc P w base sp held fuel t [c] = some y) : ∃ n, c = .int k n ∧ y = (.lit (.int k n), []) := by
 cases fuel with
 | zero => simp [DataW.trod] at h
 | succ fuel =>
  cases c <;> simp [DataW.trod, ht] at h
  rename_i k' n
  obtain ⟨⟨rfl, _⟩, rfl⟩ := h
  exact ⟨n, rfl, rfl⟩

theorem bytesU32 : Tryz.prog.bytesOf 77 = 4 := by kernel_rfl
theorem cellsU32 : Tryz.prog.cellsOf 77 = 1 := by kernel_rfl
/-- numbers that came in, opened -/
theorem u32_open {H : Type} {enc : TypeId × Value → H} {W : World} {a : Option Addr} {len cap : Nat} {d : DataW H} {p : List MemPlace}
  (h : DataW.Trod enc Tryz.prog W 0 (fun _ => true) true 34 (.slice a len cap) d p) (hs : ∀ e s, d = .slice e s → e.length + s.length ≤ 4611686018427387903) : ∃ l : List Nat, l.length = len ∧ len ≤ cap ∧ LV W a l := by
 obtain ⟨fuel, hf⟩ := h
 rcases open_ints Tryz.underlying34 Tryz.underlying77 cellsU32 hf with ⟨hcs, _⟩ | ⟨x, len', cap', zs, hcs, _, hl, hm, hz, hd, hc, hw⟩
 ·simp [Value.cells] at hcs
  obtain ⟨rfl, rfl, rfl⟩ := hcs
  exact ⟨[], rfl, Nat.le_refl _, Nat.zero_le _, fun j hj => by cases hj⟩
 ·simp [Value.cells] at hcs
  obtain ⟨rfl, rfl, rfl⟩ := hcs
  have hz : zs.length = cap := by simpa using hz
  have ln : ((zs.take len).map Int.toNat).length = len := by rw [List.length_map, List.length_take]; omega
  have hl9 : len ≤ 4611686018427387903 := by
   have h9 := hs _ _ (congrArg Prod.fst hd)
   simp [lits] at h9
   omega
  refine ⟨(zs.take len).map Int.toNat, ln, hl, by rw [ln]; exact hl9, fun j hj => ?_⟩
  rw [ln] at hj
  have g0 := hc j (by omega)
  obtain ⟨b, o, sp⟩ := x
  have hsp := World.cell?_spot g0
  have hsp : sp = none := by
   by_cases hj0 : j = 0
   ·subst hj0; simpa [Addr.add] using hsp
   ·have g1 := hc 0 (by omega)
    have := World.cell?_spot g1
    simpa [Addr.add] using this
  subst hsp
  have e : zs.getD j 0 = zs[j]'(by omega) := by rw [List.getD_eq_getElem?_getD, List.getElem?_eq_getElem (by omega)]; rfl
  have g1 : W.cell? ⟨b, o + j, none⟩ = some (.int .u32 (zs[j]'(by omega))) := by rw [Addr.add_lit, e] at g0; exact g0
  have hwf := hw (zs[j]'(by omega)) (List.getElem_mem _)
  simp [Lit.wf] at hwf
  obtain ⟨q1, q2⟩ := hwf
  have e1 : IntKind.u32.min = 0 := by decide
  have e2 : IntKind.u32.max = 4294967295 := by decide
  rw [e1] at q1
  rw [e2] at q2
  refine ⟨b, o, rfl, World.block_lt_of_cell? W _ g1, ?_, ?_⟩
  ·rw [g1]
   simp only [List.getElem_map, List.getElem_take]
   rw [Int.toNat_of_nonneg q1]
  ·simp only [List.getElem_map, List.getElem_take]
   omega


theorem weights_all {H : Type} {P : Program} {e : TypeId} : ∀ {l : List (DataW H)} {d : DataW H}, d ∈ l → ∀ n ∈ d.weights P e, n ∈ DataW.weightsAll P e l
 | a :: l, d, hd, n, hn => by
  simp only [DataW.weightsAll, List.mem_append]
  rcases List.mem_cons.1 hd with rfl | hd
  ·exact .inl hn
  ·exact .inr (weights_all hd n hn)
/-- a list in a cell that came in -/
theorem u32s_open {H : Type} {enc : TypeId × Value → H} {W : World} {fuel : Nat} {v : Value} {y : DataW H × List MemPlace} (h : DataW.trod enc Tryz.prog W 0 (fun _ => true) true fuel 34 [v] = some y) (hs : ∀ n ∈ y.1.weights Tryz.prog 34, n ≤ reachBytes) :
  ∃ (a : Option Addr) (l : List Nat) (cap : Nat), v = .slice a l.length cap ∧ l.length ≤ cap ∧ LV W a l ∧ l.length < 35184372088832 := by
 have hv : ∃ a len cap, v = .slice a len cap := by
  rcases open_ints Tryz.underlying34 Tryz.underlying77 cellsU32 h with ⟨hcs, _⟩ | ⟨x, len', cap', zs, hcs, _⟩
  ·injection hcs with hcs _
   exact ⟨_, _, _, hcs⟩
  ·injection hcs with hcs _
   exact ⟨_, _, _, hcs⟩
 obtain ⟨a, len, cap, rfl⟩ := hv
 have hT : DataW.Trod enc Tryz.prog W 0 (fun _ => true) true 34 (.slice a len cap) y.1 y.2 := ⟨fuel, h⟩
 have few : ∀ e s, y.1 = .slice e s → (e.length + s.length) * 4 < 140737488355328 := fun e s he => by
  have h9 := hs ((e.length + s.length) * Tryz.prog.bytesOf 77) (by rw [he]; simp [DataW.weights, Tryz.underlying34])
  rw [bytesU32] at h9
  have := reachBytes_lt
  omega
 have hlen : len < 35184372088832 := by
  obtain ⟨fuel2, hf⟩ := hT
  rcases open_ints Tryz.underlying34 Tryz.underlying77 cellsU32 hf with ⟨hcs, _⟩ | ⟨x, len', cap', zs, hcs, _, hl, hm, hz, hd, hc, hw⟩
  ·simp [Value.cells] at hcs
   omega
  ·simp [Value.cells] at hcs
   obtain ⟨rfl, rfl, rfl⟩ := hcs
   have hz : zs.length = cap := by simpa using hz
   have h9 := few _ _ (congrArg Prod.fst hd)
   simp [lits] at h9
   omega
 obtain ⟨l, rfl, h2, h3⟩ := u32_open hT (fun e s he => by have := few e s he; omega)
 exact ⟨a, l, cap, rfl, h2, h3, hlen⟩
end Go.Proofs.YtflnpcgnenhogaaGreatDoor.ls
