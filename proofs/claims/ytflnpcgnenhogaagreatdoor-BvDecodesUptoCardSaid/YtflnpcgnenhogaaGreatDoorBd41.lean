/- Own lemmas, laid together. -/
import Derived.Test.YtflnpcgnenhogaaGreatDoorBd31
import Derived.WalkKit
import Derived.ProofKit
import Derived.OpenShut
import Derived.ChangeSame
import Derived.Lib.LaidTab
import Derived.ChangeOld
import Derived.ChangeSlices
import Derived.ChangeMaps5
import Derived.Below
import Derived.SizedLaws
import Derived.Deep.Strs
namespace Go.Proofs.YtflnpcgnenhogaaGreatDoor.ls
open Go.ChangeShapes Go.WideShapes Go.ChangeAt Go.RowKit

theorem int_of_trod {H : Type} {enc : TypeId × Value → H} {P : Program} {w : World} {base : Nat} {sp : Nat → Bool} {held : Bool} {fuel : Nat} {t : TypeId} {k : IntKind} {c : Value} {y : DataW H × List MemPlace}
  (ht : P.underlying t = some (.int k)) (h : DataW.trod enc P w base sp held fuel t [c] = some y) : ∃ n,c = .int k n /\ y = (.lit (.int k n),[]) := by
 cases fuel with
 | zero => simp [DataW.trod] at h
 | succ fuel =>
  cases c <;> simp [DataW.trod,ht] at h
  rename_i k' n
  obtain ⟨⟨rfl,_⟩,rfl⟩ := h
  exact ⟨n,rfl,rfl⟩

theorem c_ask14 : Tryz.prog.cellsOf 73 = 7 := by kernel_rfl
theorem c_par14 : Tryz.prog.cellsOf 56 = 5 := by kernel_rfl
theorem c_int14 : Tryz.prog.cellsOf 3 = 1 := by kernel_rfl
set_option maxRecDepth 100000 in
theorem ask14_open {H : Type} {enc : TypeId × Value → H} {w : World} {base b0 : Nat} {r : Reach} {sp : Nat → Bool} {held : Bool} {v : Value} {d : DataW H} {ps : List MemPlace} (hv : Value.okWide Tryz.prog w r b0 73 v) (hd : DataW.Trod enc Tryz.prog w base sp held 73 v d ps) :
  ∃ n m a d i z c : Int,v = .agg #[.int .i64 n,.int .i64 m,.int .i64 a,.int .i64 d,.int .i64 i,.int .i64 z,.int .i64 c] := by
 obtain ⟨cs,rfl,hz⟩ := okWide_struct Tryz.underlying73 hv
 rw [c_ask14] at hz
 obtain ⟨fuel,hf⟩ := hd
 obtain ⟨l⟩ := cs
 match l,hz with
 | [v0,v1,v2,v3,v4,v5,v6],_ =>
  obtain ⟨xs,n,_,_,_,hlen,hf⟩ := DataW.trod_struct Tryz.underlying73 hf
  match xs,hlen with
  | [y0,y1,y2],_ =>
   have h0 := hf 0 _ rfl
   have h1 := hf 1 _ rfl
   have h2 := hf 2 _ rfl
   simp [c_int14,c_par14] at h0 h1 h2
   obtain ⟨m0,rfl,_⟩ := int_of_trod Tryz.underlying3 h0
   obtain ⟨m1,rfl,_⟩ := int_of_trod Tryz.underlying3 h1
   obtain ⟨xs3,m3,_,_,_,hx3,hg3⟩ := DataW.trod_struct Tryz.underlying56 h2
   match xs3,hx3 with
   | [z0,z1,z2,z3,z4],_ =>
    have k0 := hg3 0 _ rfl
    have k1 := hg3 1 _ rfl
    have k2 := hg3 2 _ rfl
    have k3 := hg3 3 _ rfl
    have k4 := hg3 4 _ rfl
    simp [c_int14] at k0 k1 k2 k3 k4
    obtain ⟨n0,rfl,_⟩ := int_of_trod Tryz.underlying3 k0
    obtain ⟨n1,rfl,_⟩ := int_of_trod Tryz.underlying3 k1
    obtain ⟨n2,rfl,_⟩ := int_of_trod Tryz.underlying3 k2
    obtain ⟨n3,rfl,_⟩ := int_of_trod Tryz.underlying3 k3
    obtain ⟨n4,rfl,_⟩ := int_of_trod Tryz.underlying3 k4
    exact ⟨m0,m1,n0,n1,n2,n3,n4,rfl⟩
end Go.Proofs.YtflnpcgnenhogaaGreatDoor.ls
