/- Own lemmas, laid together. -/
import Derived.Test.YtflnpcgnenhogaaGreatDoorBd35
import Derived.Test.YtflnpcgnenhogaaGreatDoorBd32
import Derived.Test.YtflnpcgnenhogaaGreatDoorBd25
import Derived.Test.YtflnpcgnenhogaaGreatDoorBd34
import Derived.Deep.RegionHeld3
namespace Go.Proofs.YtflnpcgnenhogaaGreatDoor.ls
open Go.RowKit Go.Proofs.YtflnpcgnenhogaaGreatDoor.own Go.Proofs.YtflnpcgnenhogaaGreatDoor.bit

def BSt (K : List (Nat × Obj)) (a : Option Addr) (B : Bits) : Prop := ∀ W : World, (∀ p ∈ K, W.heap[p.1]? = some p.2) → BlV W a B
def DRd (w : World) (wr : Option (Nat × Bits)) (rd : Option (Nat × ByteArray × Nat)) (rb : Nat) (aB : Option Addr) (dB : Nat) (B : Bits) (p : Nat) (K : List (Nat × Obj)) (W : World) : Prop :=
 FS w wr rd ((rb,.cells #[.slice aB B.length dB,.int .i64 (p : Int)] 29 (0,0)) :: K) W /\ (∀ q ∈ K,q.1 ≠ rb) /\ BSt K aB B /\ p <= B.length /\ B.length <= dB /\ B.length <= 4611686018427387903 /\ (aB = none /\ dB = 0 \/ ∃ g o,aB = some ⟨g,o,none⟩)
section
variable {w W W2 : World} {wr : Option (Nat × Bits)} {rd : Option (Nat × ByteArray × Nat)} {rb : Nat} {aB : Option Addr} {dB : Nat} {B : Bits} {p : Nat} {K : List (Nat × Obj)}
theorem DRd.next (h : DRd w wr rd rb aB dB B p K W) (k : Below W.heap.size W W2) : DRd w wr rd rb aB dB B p K W2 := ⟨h.1.next k, h.2⟩
theorem DRd.drew (h : DRd w wr rd rb aB dB B p K W) : DRd w wr rd rb aB dB B p K W.drew := h.next (Below.drew (Below.refl _ _))
theorem DRd.row (h : DRd w wr rd rb aB dB B p K W) : W.heap[rb]? = some (.cells #[.slice aB B.length dB, .int .i64 (p : Int)] 29 (0, 0)) := h.1.row (List.mem_cons_self ..)
theorem DRd.cells (h : DRd w wr rd rb aB dB B p K W) : W.cell? ⟨rb, 0, none⟩ = some (.slice aB B.length dB) ∧ W.cell? ⟨rb, 1, none⟩ = some (.int .i64 (p : Int)) ∧ W.frozen? ⟨rb, 1, none⟩ = false := by
 have r := h.row
 exact ⟨by rw [cell_of_row _ _ _ _ _ _ r]; rfl,by rw [cell_of_row _ _ _ _ _ _ r]; rfl,frozen_of_row W rb 1 _ _ r⟩
theorem DRd.bits (h : DRd w wr rd rb aB dB B p K W) : BlV W aB B := h.2.2.1 W (fun q hq => h.1.row (b := q.1) (o := q.2) (List.mem_cons_of_mem _ hq))
theorem DRd.set (h : DRd w wr rd rb aB dB B p K W) (p' : Nat) (hp : p' ≤ B.length) : DRd w wr rd rb aB dB B p' K (W.setCell ⟨rb, 1, none⟩ (.int .i64 (p' : Int))) :=
 ⟨h.1.store (j := 1) (.int .i64 (p' : Int)) h.2.1,h.2.1,h.2.2.1,hp,h.2.2.2.2⟩
end
theorem BlV.cut {w : World} {g o dB : Nat} {B : Bits} {p n : Nat} (h : BlV w (some ⟨g, o, none⟩) B) (hd : B.length ≤ dB) : BlV w (if dB = p then some ⟨g, o, none⟩ else some ⟨g, o + p, none⟩) ((B.drop p).take n) := fun k hk => by
 rw [List.length_take,List.length_drop] at hk
 obtain ⟨g', o', e,h2,h3⟩ := h (p + k) (by omega)
 cases e
 refine ⟨g,o + p,if_neg (by omega),h2,?_⟩
 rw [Nat.add_assoc,h3,List.getElem_take,List.getElem_drop]
def tkR (B : Bits) (p n : Nat) : Nat × Nat × Nat := if p + n ≤ B.length then (num ((B.drop p).take n), 0, p + n) else (0, 4, p)
set_option maxRecDepth 100000 in
set_option maxHeartbeats 3200000 in
theorem DRd.take {w W : World} {wr : Option (Nat × Bits)} {rd : Option (Nat × ByteArray × Nat)} {rb : Nat} {aB : Option Addr} {dB : Nat} {B : Bits} {p : Nat} {K : List (Nat × Obj)} (h : DRd w wr rd rb aB dB B p K W) (n : Nat) (hn : n ≤ 64) :
  Calls Tryz.prog 105 #[.pointer (some ⟨rb,0,none⟩),.int .i64 (n : Int)] W fun e w' => e = .returned (.tuple #[.int .u64 ((tkR B p n).1 : Int),.int .i64 ((tkR B p n).2.1 : Int)]) /\ DRd w wr rd rb aB dB B (tkR B p n).2.2 K w' := by
 have H := Lib.hid h
 obtain ⟨-,-,-,hp,hd,hb9,hnone⟩ := h
 have RC := Lib.hid (fun W' (k : Below W.heap.size W W') => (⟨(H.out.next k).cells.1,(H.out.next k).cells.2.1,(H.out.next k).cells.2.2,k⟩ : W'.cell? ⟨rb,0,none⟩ = some (.slice aB B.length dB) /\ W'.cell? ⟨rb,1,none⟩ = some (.int .i64 (p : Int)) /\ W'.frozen? ⟨rb,1,none⟩ = false /\ Below W.heap.size W W'))
 have KX := Lib.hid (fun W' W2 (h : Below W.heap.size W W') (k : Below W'.heap.size W' W2) => h.trans (k.mono h.size))
 obtain ⟨c0,c1,-⟩ := RC.out W (Below.refl _ _)
 obtain ⟨N,hN⟩ : ∃ z,B.length = z := ⟨_,rfl⟩
 have i1 : ¬ (n : Int) < 0 := by omega
 have i2 : ¬ (64 : Int) < (n : Int) := by omega
 have w1 : IntKind.i64.wrap ((N : Int) - (p : Int)) = (N : Int) - (p : Int) := IntWalk.i64_in _ (by omega)
 by_cases hlt : p + n <= N
 ·have TK : Hid (tkR B p n = (num ((B.drop p).take n),0,p + n)) := Lib.hid (by unfold tkR; rw [hN]; exact if_pos hlt)
  rw [TK.out]
  have i3 : ¬ (N : Int) - (p : Int) < (n : Int) := by omega
  obtain ⟨M,hM⟩ : ∃ z,p + n = z := ⟨_,rfl⟩
  have w2 : IntKind.i64.wrap ((p : Int) + (n : Int)) = (M : Int) := by rw [IntWalk.i64_in _ (by omega)]; omega
  have b1 : (0 : Int) <= (p : Int) := by omega
  have b2 : (p : Int) <= (M : Int) := by omega
  have b3 : (M : Int) <= (dB : Int) := by omega
  have hM3 : M <= dB := by omega
  have hpM : p <= M := by omega
  have ST : Hid (∀ W', Below W.heap.size W W' -> DRd w wr rd rb aB dB B M K (W'.setCell ⟨rb,1,none⟩ (.int .i64 (M : Int)))) := Lib.hid (fun W' k => (H.out.next k).set M (by omega))
  have NUM : Hid (∀ W' ao (_ : Below W.heap.size W W'),BlV W' ao ((B.drop p).take n) -> Calls Tryz.prog 129 #[.slice ao (M - p) (dB - p)] W' fun e w' => e = .returned (.int .u64 (num ((B.drop p).take n) : Int)) /\ Below W'.heap.size W' w') := Lib.hid (fun W' ao _ hb => by
   have h1 := Number_any W' ao (dB - p) ((B.drop p).take n) (by rw [List.length_take]; omega) hb
   rw [show ((B.drop p).take n).length = M - p by rw [List.length_take,List.length_drop]; omega] at h1
   exact h1)
  obtain ⟨v,hv⟩ : ∃ v,num ((B.drop p).take n) = v := ⟨_,rfl⟩
  rw [hv] at NUM ⊢
  rw [hN] at c0 RC
  have HH := Lib.hid (And.intro hlt (And.intro hM hN))
  rcases hnone with ⟨rfl,hd0⟩ | ⟨g,o,rfl⟩
  ·obtain ⟨rfl,rfl⟩ : p = 0 /\ n = 0 := by omega
   obtain rfl : M = 0 := by omega
   obtain rfl : N = 0 := by omega
   subst hd0
   have NB := Lib.hid (fun W' (k : Below W.heap.size W W') => NUM.out W' none k (fun i hi => by rw [List.length_take] at hi; omega))
   have c1 : W.cell? ⟨rb,1,none⟩ = some (.int .i64 0) := c1
   have e6 : IntKind.i64.wrap 0 = 0 := by decide
   clear hb9 hv hp hd hlt hM hN TK w1 w2 b1 b2 b3 i3 NUM
   have b1 : (0 : Int) <= 0 := Int.le_refl _
   have b2 : (0 : Int) <= ((0 : Nat) : Int) := Int.le_refl _
   have e7 : IntKind.i64.wrap (0 + 0) = 0 := by decide
   go_enter Tryz.func105,Tryz.ntmps105
   go_upto_region 3 with fail
   go_big_region
   go_wp2_with fail
   have K0 : Below W.heap.size W W.drew := Below.drew (Below.refl _ _)
   go_region_held3 (fun W' => W'.cell? ⟨rb,0,none⟩ = some (.slice none 0 0) /\ W'.cell? ⟨rb,1,none⟩ = some (.int .i64 0) /\ W'.frozen? ⟨rb,1,none⟩ = false /\ Below W.heap.size W W')
    (first | exact RC.out _ (by assumption) | exact RC.out _ (Below.drew (by assumption)))
    (first | (go_at_call 129; (with_reducible refine (NB.out _ (by first | assumption | exact Below.drew (by assumption))).mono ?_); rintro e w5 ⟨rfl,k5⟩; have k7 := (by first | exact KX.out _ _ (by assumption) k5 | exact KX.out _ _ (Below.drew (by assumption)) k5 : Below W.heap.size W w5)))
   obtain ⟨c0b,c1b,z1,-⟩ := RC.out w5 k7
   have F := Lib.hid (ST.out w5 k7)
   clear k5
   go_wp2_with fail
   go_ret2
   exact ⟨rfl,F.out⟩
  ·have NB := Lib.hid (fun W' (k : Below W.heap.size W W') => NUM.out W' (if dB = p then some ⟨g,o,none⟩ else some ⟨g,o + p,none⟩) k ((H.out.next k).bits.cut hd))
   obtain ⟨ao,hao⟩ : ∃ z,(if dB = p then some (⟨g,o,none⟩ : Addr) else some ⟨g,o + p,none⟩) = z := ⟨_,rfl⟩
   rw [hao] at NB
   clear hb9 hv hp hd hlt hM hN TK NUM
   go_enter Tryz.func105,Tryz.ntmps105
   go_upto_region 3 with fail
   go_big_region
   go_wp2_with fail
   have K0 : Below W.heap.size W W.drew := Below.drew (Below.refl _ _)
   go_region_held3 (fun W' => W'.cell? ⟨rb,0,none⟩ = some (.slice (some ⟨g,o,none⟩) N dB) /\ W'.cell? ⟨rb,1,none⟩ = some (.int .i64 (p : Int)) /\ W'.frozen? ⟨rb,1,none⟩ = false /\ Below W.heap.size W W')
    (first | exact RC.out _ (by assumption) | exact RC.out _ (Below.drew (by assumption)))
    (first | (go_at_call 129; (with_reducible refine (NB.out _ (by first | assumption | exact Below.drew (by assumption))).mono ?_); rintro e w5 ⟨rfl,k5⟩; have k7 := (by first | exact KX.out _ _ (by assumption) k5 | exact KX.out _ _ (Below.drew (by assumption)) k5 : Below W.heap.size W w5)))
   obtain ⟨c0b,c1b,z1,-⟩ := RC.out w5 k7
   have F := Lib.hid (ST.out w5 k7)
   clear k5
   go_wp2_with fail
   go_ret2
   exact ⟨rfl,by rw [HH.out.2.1]; exact F.out⟩
 ·have TK : Hid (tkR B p n = (0,4,p)) := Lib.hid (by unfold tkR; rw [hN]; exact if_neg hlt)
  rw [TK.out]
  have i3 : (N : Int) - (p : Int) < (n : Int) := by omega
  rw [hN] at c0
  clear hnone hb9
  go_enter Tryz.func105,Tryz.ntmps105
  go_upto_region 3 with fail
  go_big_region
  go_wp2_with fail
  go_ret2
  exact ⟨rfl,H.out.drew⟩
theorem drop_cons {B : Bits} {p : Nat} (h : p < B.length) : B.drop p = B[p] :: B.drop (p + 1) := List.drop_eq_getElem_cons h
theorem tkR_one (B : Bits) (p : Nat) (h : p < B.length) : tkR B p 1 = ((if B[p] then 1 else 0), 0, p + 1) := by
 unfold tkR
 rw [if_pos (by omega),drop_cons h]
 generalize B[p] = b
 cases b <;> rfl
set_option maxRecDepth 100000 in
theorem DRd.bit {w W : World} {wr : Option (Nat × Bits)} {rd : Option (Nat × ByteArray × Nat)} {rb : Nat} {aB : Option Addr} {dB : Nat} {B : Bits} {p : Nat} {K : List (Nat × Obj)} (h : DRd w wr rd rb aB dB B p K W) :
  Calls Tryz.prog 128 #[.pointer (some ⟨rb,0,none⟩)] W fun e w' => (∀ hp : p < B.length,e = .returned (.tuple #[.bool B[p],.int .i64 0]) /\ DRd w wr rd rb aB dB B (p + 1) K w') /\ (¬ p < B.length -> e = .returned (.tuple #[.bool false,.int .i64 4]) /\ DRd w wr rd rb aB dB B p K w') := by
 have t := h.take 1 (by decide)
 rw [show ((1 : Nat) : Int) = 1 from rfl] at t
 have T := Lib.hid t
 clear t
 by_cases hp : p < B.length
 ·rw [tkR_one B p hp] at T
  generalize hb : B[p] = b at T
  have HB := Lib.hid hb
  have HP := Lib.hid hp
  clear h hb
  go_enter Tryz.func128,Tryz.ntmps128
  go_wp2_with fail
  with_reducible refine T.out.mono ?_
  rintro e w1 ⟨rfl,h1⟩
  have H1 := Lib.hid h1
  clear h1 T
  cases b
  ·go_wp2_with fail
   go_ret2
   exact ⟨fun h => ⟨by rw [HB.out]; rfl,H1.out⟩,fun h => absurd HP.out h⟩
  ·go_wp2_with fail
   go_ret2
   exact ⟨fun h => ⟨by rw [HB.out]; rfl,H1.out⟩,fun h => absurd HP.out h⟩
 ·have e : tkR B p 1 = (0,4,p) := by unfold tkR; rw [if_neg (by omega)]
  rw [e] at T
  have HP := Lib.hid hp
  clear h hp e
  go_enter Tryz.func128,Tryz.ntmps128
  go_wp2_with fail
  with_reducible refine T.out.mono ?_
  rintro e w1 ⟨rfl,h1⟩
  have H1 := Lib.hid h1
  clear h1 T
  go_wp2_with fail
  go_ret2
  exact ⟨fun h => absurd h HP.out,fun _ => ⟨rfl,H1.out⟩⟩
def ZerP (w : World) (wr : Option (Nat × Bits)) (rd : Option (Nat × ByteArray × Nat)) (rb : Nat) (aB : Option Addr) (dB : Nat) (B : Bits) (p : Nat) (K : List (Nat × Obj)) (z : Option Nat) (e : Ending) (w' : World) : Prop :=
 ∃ p', DRd w wr rd rb aB dB B p' K w' /\ (∀ n,z = some n -> e = .returned (.tuple #[.int .i64 (n : Int),.bool true]) /\ p' = p + n + 1) /\ (z = none -> e = .returned (.tuple #[.int .i64 0,.bool false]))
set_option maxRecDepth 100000 in
theorem DRd.zeros {w W : World} {wr : Option (Nat × Bits)} {rd : Option (Nat × ByteArray × Nat)} {rb : Nat} {aB : Option Addr} {dB : Nat} {B : Bits} {p : Nat} {K : List (Nat × Obj)} (h : DRd w wr rd rb aB dB B p K W) (most : Nat) (hm : most ≤ 100000) :
  Calls Tryz.prog 104 #[.pointer (some ⟨rb,0,none⟩),.int .i64 (most : Int)] W (ZerP w wr rd rb aB dB B p K (zer (most + 1) (B.drop p))) := by
 have H := Lib.hid h
 clear h
 go_enter Tryz.func104,Tryz.ntmps104
 go_wp2_with fail
 trace_state
 go_loopw [6] (fun v wr' => ∃ i : Nat,v = .int .i64 (i : Int) /\ i <= most + 1 /\ DRd w wr rd rb aB dB B (p + i) K wr' /\ zer (most + 1) (B.drop p) = (zer (most + 1 - i) (B.drop (p + i))).map (· + i)) (fun v _ => most + 1 - (intOf v).toNat)
 case atStart => exact ⟨0,rfl,Nat.zero_le _,H.out,by simp⟩
 case round =>
  obtain ⟨i,rfl,hi,hD,hz⟩ := hrel
  have BI := Lib.hid hD.bit
  have HD0 := Lib.hid hD
  have HZ := Lib.hid hz
  clear hD hz
  by_cases hle : i <= most
  ·go_wp2_with fail
   with_reducible refine BI.out.mono ?_
   rintro e w1 ⟨hy,hn⟩
   by_cases hp : p + i < B.length
   ·obtain ⟨rfl,hD⟩ := hy hp
    have ez := HZ.out
    rw [drop_cons hp,show most + 1 - i = (most - i) + 1 by omega,zer] at ez
    generalize (B[p + i]'hp) = b at ez ⊢
    have HD := Lib.hid hD
    have EZ := Lib.hid ez
    clear hy hn hD ez
    cases b
    ·go_wp2_with fail
     go_roundw
     case rel => exact ⟨i + 1,by go_num,by omega,HD.out,by
      rw [EZ.out,if_neg (by decide),show most + 1 - (i + 1) = most - i by omega,Option.map_map]
      exact congrArg (fun f => Option.map f _) (funext fun n => by show n + 1 + i = n + (i + 1); omega)⟩
     case measure => simp [intOf]; try omega
    ·go_wp2_with fail
     go_ret2
     refine ⟨_,HD.out,fun n hn => ?_,fun hn => ?_⟩
     ·rw [EZ.out,if_pos trivial] at hn
      have hn : 0 + i = n := Option.some.inj hn
      obtain rfl : n = i := by omega
      exact ⟨rfl,rfl⟩
     ·rw [EZ.out,if_pos trivial] at hn
      cases hn
   ·obtain ⟨rfl,hD⟩ := hn hp
    have ez : zer (most + 1) (B.drop p) = none := by
     rw [HZ.out,List.drop_eq_nil_of_le (by omega),show most + 1 - i = (most - i) + 1 by omega]
     rfl
    have HD := Lib.hid hD
    have EZ := Lib.hid ez
    clear hy hn hD ez
    go_wp2_with fail
    go_ret2
    exact ⟨_,HD.out,fun n hn => (by rw [EZ.out] at hn; cases hn),fun _ => rfl⟩
  ·have hi2 : i = most + 1 := by omega
   have EZ : Hid (zer (most + 1) (B.drop p) = none) := Lib.hid (by
    rw [HZ.out,show most + 1 - i = 0 by omega]
    rfl)
   have HD := Lib.hid HD0.out
   clear BI
   go_wp2_with fail
   go_ret2
   exact ⟨_,HD.out,fun n hn => (by rw [EZ.out] at hn; cases hn),fun _ => rfl⟩
def NumP (w : World) (wr : Option (Nat × Bits)) (rd : Option (Nat × ByteArray × Nat)) (rb : Nat) (aB : Option Addr) (dB : Nat) (B : Bits) (p : Nat) (K : List (Nat × Obj)) (z : Option (Nat × Nat)) (e : Ending) (w' : World) : Prop :=
 ∃ p', DRd w wr rd rb aB dB B p' K w' /\ (∀ v n,z = some (v,n) -> e = .returned (.tuple #[.int .u64 (v : Int),.bool true]) /\ p' = p + n) /\ (z = none -> ∃ v : Int,e = .returned (.tuple #[.int .u64 v,.bool false]))
theorem NumP.no {w w' : World} {wr : Option (Nat × Bits)} {rd : Option (Nat × ByteArray × Nat)} {rb : Nat} {aB : Option Addr} {dB : Nat} {B : Bits} {p p' : Nat} {K : List (Nat × Obj)} {z : Option (Nat × Nat)} (h : DRd w wr rd rb aB dB B p' K w') (hz : z = none) (v : Int) : NumP w wr rd rb aB dB B p K z (.returned (.tuple #[.int .u64 v, .bool false])) w' :=
 ⟨p', h,fun v n e => (by rw [hz] at e; cases e),fun _ => ⟨v,rfl⟩⟩
theorem NumP.yes {w w' : World} {wr : Option (Nat × Bits)} {rd : Option (Nat × ByteArray × Nat)} {rb : Nat} {aB : Option Addr} {dB : Nat} {B : Bits} {p : Nat} {K : List (Nat × Obj)} {z : Option (Nat × Nat)} {v n : Nat} (h : DRd w wr rd rb aB dB B (p + n) K w') (hz : z = some (v, n)) : NumP w wr rd rb aB dB B p K z (.returned (.tuple #[.int .u64 (v : Int), .bool true])) w' :=
 ⟨p + n,h,fun v' n' e => (by rw [hz] at e; cases e; exact ⟨rfl,rfl⟩),fun e => (by rw [hz] at e; cases e)⟩
set_option maxRecDepth 100000 in
set_option maxHeartbeats 3200000 in
theorem DRd.short {w W : World} {wr : Option (Nat × Bits)} {rd : Option (Nat × ByteArray × Nat)} {rb : Nat} {aB : Option Addr} {dB : Nat} {B : Bits} {p : Nat} {K : List (Nat × Obj)} (h : DRd w wr rd rb aB dB B p K W) (k : Nat) (hk : 1 ≤ k) (hc : clog k ≤ 62) :
  Calls Tryz.prog 106 #[.pointer (some ⟨rb,0,none⟩),.int .u64 (k : Int)] W (NumP w wr rd rb aB dB B p K (mread k (B.drop p))) := by
 have H := Lib.hid h
 have hpB : p <= B.length := h.2.2.2.1
 obtain ⟨S,hS⟩ : ∃ S,clog k = S := ⟨_,rfl⟩
 have HS : Hid (∀ s,s < S -> 2 ^ s < k) := Lib.hid (fun s h => clog_below hk (by rw [hS]; exact h))
 have hP := @clog_le k
 have hM : mread k (B.drop p) = if S = 0 then some (0,0) else if (B.drop p).length < S - 1 then none else if num ((B.drop p).take (S - 1)) < 2 ^ S - k then some (num ((B.drop p).take (S - 1)),S - 1) else if (B.drop p).length < S then none else some (num ((B.drop p).take S) - (2 ^ S - k),S) := by unfold mread; rw [hS]
 rw [List.length_drop] at hM
 rw [hS] at hP hc
 have hP2 : 2 ^ S <= 4611686018427387904 := by
  have : (2 : Nat) ^ S <= 2 ^ 62 := Nat.pow_le_pow_right (by decide) hc
  exact this
 have HM := Lib.hid hM
 have HP := Lib.hid hP
 have HP2 := Lib.hid hP2
 clear hS hM hP hP2 h
 go_enter Tryz.func106,Tryz.ntmps106
 go_upto_block 0 with fail
 go_cut [6] from 12 to 21 (fun v5 wc => v5 = .int .i64 (S : Int) /\ wc = W)
 case first =>
  go_wp2_with fail
  go_loopw [6] (fun v5 wr => ∃ s : Nat,v5 = .int .i64 (s : Int) /\ s <= S /\ wr = W) (fun v5 _ => S - (intOf v5).toNat)
  case atStart => exact ⟨0,rfl,Nat.zero_le _,rfl⟩
  case round =>
   obtain ⟨s,rfl,hs,rfl⟩ := hrel
   have i1 : decide ((s : Int) < (63 : Int)) = true := decide_eq_true (by omega)
   obtain ⟨q,hq⟩ : ∃ q,2 ^ s = q := ⟨_,rfl⟩
   have hq9 : q <= 4611686018427387904 := by
    rw [<- hq]
    exact Nat.le_trans (Nat.pow_le_pow_right (by decide) hs) HP2.out
   have e3 := u64_pow s q hq (by omega)
   have Q1 : Hid (s < S -> q < k) := Lib.hid (fun h => hq ▸ HS.out s h)
   have Q2 : Hid (s = S -> k <= q) := Lib.hid (fun h => by rw [<- hq,h]; exact HP.out)
   clear hq
   by_cases hlt : s < S
   ·have h3 := Q1.out hlt
    have i2 : decide ((q : Int) < (k : Int)) = true := decide_eq_true (by omega)
    have i2n : decide (q < k) = true := decide_eq_true h3
    clear h3
    go_wp2_with fail
    go_roundw
    case rel => exact ⟨s + 1,by go_num,by omega,by first | rfl | trivial⟩
    case measure => simp [intOf]; omega
   ·have hss : s = S := by omega
    have h3 := Q2.out hss
    have i2 : decide ((q : Int) < (k : Int)) = false := decide_eq_false (by omega)
    have i2n : decide (q < k) = false := decide_eq_false (by omega)
    subst hss
    clear h3
    go_wp2_with fail
    go_meet
    case rel => exact ⟨rfl,rfl⟩
 case rest =>
  obtain ⟨rfl,rfl⟩ := hcut
  obtain ⟨q,hq⟩ : ∃ q,2 ^ S = q := ⟨_,rfl⟩
  rw [hq] at HM HP HP2
  have e3 := u64_pow S q hq (by have := HP2.out; omega)
  have hqk : k <= q := HP.out
  have w1 : IntKind.u64.wrap ((q : Int) - (k : Int)) = ((q - k : Nat) : Int) := by rw [IntWalk.u64_in _ (by have := HP2.out; omega)]; omega
  obtain ⟨M,hM⟩ : ∃ M,q - k = M := ⟨_,rfl⟩
  rw [hM] at HM w1
  have hM9 : M < 4611686018427387904 := by have := HP2.out; omega
  clear hq
  by_cases hS0 : S = 0
  ·subst hS0
   have EZ : Hid (mread k (B.drop p) = some (0,0)) := Lib.hid (by rw [HM.out,if_pos rfl])
   go_wp2_with fail
   go_ret2
   exact NumP.yes (n := 0) H.out EZ.out
  ·have wS : IntKind.i64.wrap ((S : Int) - 1) = ((S - 1 : Nat) : Int) := by rw [IntWalk.i64_in _ (by omega)]; omega
   have i0 : ((S : Int) == 0) = false := beq_eq_false_iff_ne.2 (by omega)
   have HM1 := Lib.hid ((HM.out).trans (if_neg hS0))
   have TK := Lib.hid (H.out.take (S - 1) (by omega))
   clear HM
   by_cases h1 : p + (S - 1) <= B.length
   ·have et : tkR B p (S - 1) = (num ((B.drop p).take (S - 1)),0,p + (S - 1)) := by unfold tkR; rw [if_pos h1]
    rw [et] at TK
    have HM2 := Lib.hid ((HM1.out).trans (if_neg (by omega)))
    obtain ⟨v,hv⟩ : ∃ v,num ((B.drop p).take (S - 1)) = v := ⟨_,rfl⟩
    have hv9 : v < 2305843009213693952 := by
     have h := num_lt ((B.drop p).take (S - 1))
     rw [hv] at h
     exact Nat.lt_of_lt_of_le h (Nat.le_trans (Nat.pow_le_pow_right (by decide) (by rw [List.length_take]; omega)) (by decide : 2 ^ 61 <= 2305843009213693952))
    have HV := Lib.hid hv
    rw [hv] at TK HM2
    clear hv et HM1
    go_wp2_with fail
    with_reducible refine TK.out.mono ?_
    rintro e w1 ⟨rfl,h2⟩
    have D1 := Lib.hid h2
    have BT := Lib.hid h2.bit
    clear h2 TK
    by_cases hvm : v < M
    ·have EZ : Hid (mread k (B.drop p) = some (v,S - 1)) := Lib.hid ((HM2.out).trans (if_pos hvm))
     have j1 : decide ((v : Int) < (M : Int)) = true := decide_eq_true (by omega)
     have j1n : decide (v < M) = true := decide_eq_true hvm
     clear BT
     go_wp2_with fail
     go_ret2
     exact NumP.yes D1.out EZ.out
    ·have HM3 := Lib.hid ((HM2.out).trans (if_neg hvm))
     have j1 : decide ((v : Int) < (M : Int)) = false := decide_eq_false (by omega)
     have j1n : decide (v < M) = false := decide_eq_false hvm
     have w2 : IntKind.u64.wrap (2 * (v : Int)) = 2 * (v : Int) := IntWalk.u64_in _ (by omega)
     have w3 : IntKind.u64.wrap (2 * (v : Int) + 1) = 2 * (v : Int) + 1 := IntWalk.u64_in _ (by omega)
     clear HM2 D1
     go_wp2_with fail
     with_reducible refine BT.out.mono ?_
     rintro e w2 ⟨hy,hn⟩
     have w4 : IntKind.u64.wrap (2 * (v : Int) - (M : Int)) = ((2 * v - M : Nat) : Int) := by rw [IntWalk.u64_in _ (by omega)]; omega
     have w5 : IntKind.u64.wrap (2 * (v : Int) + 1 - (M : Int)) = ((2 * v + 1 - M : Nat) : Int) := by rw [IntWalk.u64_in _ (by omega)]; omega
     by_cases hb : p + (S - 1) < B.length
     ·obtain ⟨rfl,hD⟩ := hy hb
      have hs := num_snoc (B.drop p) (S - 1) (by rw [List.length_drop]; omega)
      rw [List.getElem_drop,HV.out,show S - 1 + 1 = S by omega] at hs
      have em := (HM3.out).trans (if_neg (by omega))
      rw [hs] at em
      rw [show p + (S - 1) + 1 = p + S by omega] at hD
      generalize (B[p + (S - 1)]'hb) = b at em ⊢
      have D2 := Lib.hid hD
      have EM := Lib.hid em
      clear hy hn hD em hs HM3
      cases b
      ·go_wp2_with fail
       go_ret2
       exact NumP.yes D2.out EM.out
      ·go_wp2_with fail
       go_ret2
       exact NumP.yes D2.out EM.out
     ·obtain ⟨rfl,hD⟩ := hn hb
      have EM := Lib.hid ((HM3.out).trans (if_pos (by omega)))
      have D2 := Lib.hid hD
      clear hy hn hD HM3
      go_wp2_with fail
      go_ret2
      exact NumP.no D2.out EM.out _
   ·have et : tkR B p (S - 1) = (0,4,p) := by unfold tkR; rw [if_neg h1]
    rw [et] at TK
    have EZ : Hid (mread k (B.drop p) = none) := Lib.hid ((HM1.out).trans (if_pos (by omega)))
    clear et HM1
    go_wp2_with fail
    with_reducible refine TK.out.mono ?_
    rintro e w1 ⟨rfl,h2⟩
    have D1 := Lib.hid h2
    clear h2 TK
    go_wp2_with fail
    go_ret2
    exact NumP.no D1.out EZ.out _
set_option maxRecDepth 100000 in
theorem dcheck_una (w : World) : Calls Tryz.prog 76 #[.agg #[.int .u8 0, .int .u64 0]] w fun e w' => e = .returned (.int .i64 0) ∧ Below w.heap.size w w' := by
 go_enter Tryz.func76,Tryz.ntmps76
 go_wp2_with fail
 go_ret
 exact ⟨rfl,(by repeat (first | exact Below.refl _ _ | refine below_drewN ?_ _ | refine Below.setCell ?_ (by simp; try omega) _ | refine Below.alloc ?_ (by simp; try omega) _))⟩
set_option maxRecDepth 100000 in
theorem dcheck_gam (w : World) : Calls Tryz.prog 76 #[.agg #[.int .u8 1, .int .u64 0]] w fun e w' => e = .returned (.int .i64 0) ∧ Below w.heap.size w w' := by
 go_enter Tryz.func76,Tryz.ntmps76
 go_wp2_with fail
 go_ret
 exact ⟨rfl,(by repeat (first | exact Below.refl _ _ | refine below_drewN ?_ _ | refine Below.setCell ?_ (by simp; try omega) _ | refine Below.alloc ?_ (by simp; try omega) _))⟩
set_option maxRecDepth 100000 in
theorem dcheck_zet (k : Nat) (h1 : 1 ≤ k) (h2 : k ≤ 16) (w : World) : Calls Tryz.prog 76 #[.agg #[.int .u8 3, .int .u64 (k : Int)]] w fun e w' => e = .returned (.int .i64 0) ∧ Below w.heap.size w w' := by
 have i1 : decide ((k : Int) < 1) = false := decide_eq_false (by omega)
 have i2 : decide ((16 : Int) < (k : Int)) = false := decide_eq_false (by omega)
 go_enter Tryz.func76,Tryz.ntmps76
 go_wp2_with fail
 go_ret
 exact ⟨rfl,(by repeat (first | exact Below.refl _ _ | refine below_drewN ?_ _ | refine Below.setCell ?_ (by simp; try omega) _ | refine Below.alloc ?_ (by simp; try omega) _))⟩
theorem dcheck_ok (c : Cd) (hc : c.ok) (w : World) : Calls Tryz.prog 76 #[cdV c] w fun e w' => e = .returned (.int .i64 0) ∧ Below w.heap.size w w' := by
 cases c with
 | una => exact dcheck_una w
 | gam => exact dcheck_gam w
 | zet k => exact dcheck_zet k hc.1 hc.2 w
set_option maxRecDepth 100000 in
theorem dmost_una (w : World) : Calls Tryz.prog 78 #[.agg #[.int .u8 0, .int .u64 0]] w fun e w' => e = .returned (.int .u64 65535) ∧ Below w.heap.size w w' := by
 have CK := Lib.hid (fun W => dcheck_una W)
 go_enter Tryz.func78,Tryz.ntmps78
 go_wp2_with fail
 have k1 : Below w.heap.size w (w.alloc (.cells #[.int .u8 0,.int .u64 0] 104)) := (Below.refl _ _).alloc (Nat.le_refl _) _
 have r1 := heap_alloc_new w (.cells #[.int .u8 0,.int .u64 0] 104)
 with_reducible refine (CK.out _).mono ?_
 rintro e w2 ⟨rfl,k2⟩
 have r2 := (k2.block _ (lt_of_block r1)).trans r1
 have K2 := Lib.hid (k1.trans (k2.mono k1.size))
 have c0 : w2.cell? ⟨w.heap.size,0,none⟩ = some (.int .u8 0) := by rw [cell_of_row _ _ _ _ _ _ r2]; rfl
 clear k1 r1 k2 r2
 go_wp2_with fail
 go_ret
 exact ⟨rfl,K2.out⟩
set_option maxRecDepth 100000 in
theorem dmost_gam (w : World) : Calls Tryz.prog 78 #[.agg #[.int .u8 1, .int .u64 0]] w fun e w' => e = .returned (.int .u64 281474976710654) ∧ Below w.heap.size w w' := by
 have CK := Lib.hid (fun W => dcheck_gam W)
 go_enter Tryz.func78,Tryz.ntmps78
 go_wp2_with fail
 have k1 : Below w.heap.size w (w.alloc (.cells #[.int .u8 1,.int .u64 0] 104)) := (Below.refl _ _).alloc (Nat.le_refl _) _
 have r1 := heap_alloc_new w (.cells #[.int .u8 1,.int .u64 0] 104)
 with_reducible refine (CK.out _).mono ?_
 rintro e w2 ⟨rfl,k2⟩
 have r2 := (k2.block _ (lt_of_block r1)).trans r1
 have K2 := Lib.hid (k1.trans (k2.mono k1.size))
 have c0 : w2.cell? ⟨w.heap.size,0,none⟩ = some (.int .u8 1) := by rw [cell_of_row _ _ _ _ _ _ r2]; rfl
 clear k1 r1 k2 r2
 go_wp2_with fail
 go_ret
 exact ⟨rfl,K2.out⟩
set_option maxRecDepth 100000 in
theorem dmost_zet (k : Nat) (h1 : 1 ≤ k) (h2 : k ≤ 16) (w : World) : Calls Tryz.prog 78 #[.agg #[.int .u8 3, .int .u64 (k : Int)]] w fun e w' => e = .returned (.int .u64 281474976710654) ∧ Below w.heap.size w w' := by
 have CK := Lib.hid (fun W => dcheck_zet k h1 h2 W)
 go_enter Tryz.func78,Tryz.ntmps78
 go_wp2_with fail
 have k1 : Below w.heap.size w (w.alloc (.cells #[.int .u8 3,.int .u64 (k : Int)] 104)) := (Below.refl _ _).alloc (Nat.le_refl _) _
 have r1 := heap_alloc_new w (.cells #[.int .u8 3,.int .u64 (k : Int)] 104)
 with_reducible refine (CK.out _).mono ?_
 rintro e w2 ⟨rfl,k2⟩
 have r2 := (k2.block _ (lt_of_block r1)).trans r1
 have K2 := Lib.hid (k1.trans (k2.mono k1.size))
 have c0 : w2.cell? ⟨w.heap.size,0,none⟩ = some (.int .u8 3) := by rw [cell_of_row _ _ _ _ _ _ r2]; rfl
 clear k1 r1 k2 r2
 go_wp2_with fail
 go_ret
 exact ⟨rfl,K2.out⟩
theorem dmost_ok (c : Cd) (hc : c.ok) (w : World) : Calls Tryz.prog 78 #[cdV c] w fun e w' => e = .returned (.int .u64 (c.most : Int)) ∧ Below w.heap.size w w' := by
 cases c with
 | una => exact dmost_una w
 | gam => exact dmost_gam w
 | zet k => exact dmost_zet k hc.1 hc.2 w
section
variable {w W : World} {wr : Option (Nat × Bits)} {rd : Option (Nat × ByteArray × Nat)} {rb : Nat} {aB : Option Addr} {dB : Nat} {B : Bits} {p : Nat} {K K' : List (Nat × Obj)}
theorem BSt.more (h : BSt K aB B) (hs : ∀ q ∈ K, q ∈ K') : BSt K' aB B := fun W hW => h W (fun q hq => hW q (hs q hq))
theorem DRd.add (h : DRd w wr rd rb aB dB B p K W) (row : Array Value) (T : TypeId) : DRd w wr rd rb aB dB B p ((W.heap.size, .cells row T (0, 0)) :: K) (W.alloc (.cells row T)) := by
 have hr := lt_of_block h.row
 refine ⟨(h.1.add row T).sub (fun q hq => ?_),fun q hq => ?_,h.2.2.1.more (fun q hq => List.mem_cons_of_mem _ hq),h.2.2.2⟩
 ·simp only [List.mem_cons] at hq ⊢
  rcases hq with hq | hq | hq
  ·exact .inr (.inl hq)
  ·exact .inl hq
  ·exact .inr (.inr hq)
 ·rcases List.mem_cons.1 hq with rfl | hq
  ·show W.heap.size ≠ rb
   omega
  ·exact h.2.1 q hq
theorem DRd.has (h : DRd w wr rd rb aB dB B p K W) {q : Nat × Obj} (hq : q ∈ K) : W.heap[q.1]? = some q.2 := h.1.row (b := q.1) (o := q.2) (List.mem_cons_of_mem _ hq)
theorem DRd.less (h : DRd w wr rd rb aB dB B p K W) (hs : ∀ q ∈ K', q ∈ K) (hb : BSt K' aB B) : DRd w wr rd rb aB dB B p K' W :=
 ⟨h.1.sub (fun q hq => by
  rcases List.mem_cons.1 hq with hq | hq
  ·exact List.mem_cons.2 (.inl hq)
  ·exact List.mem_cons_of_mem _ (hs q hq)),fun q hq => h.2.1 q (hs q hq),hb,h.2.2.2⟩
end
set_option maxRecDepth 100000 in
set_option maxHeartbeats 3200000 in
theorem DRd.read_una {w W : World} {wr : Option (Nat × Bits)} {rd : Option (Nat × ByteArray × Nat)} {rb : Nat} {aB : Option Addr} {dB : Nat} {B : Bits} {p : Nat} {K : List (Nat × Obj)} (h : DRd w wr rd rb aB dB B p K W) :
  Calls Tryz.prog 77 #[.pointer (some ⟨rb,0,none⟩),.agg #[.int .u8 0,.int .u64 0]] W (NumP w wr rd rb aB dB B p K (rd0 .una (B.drop p))) := by
 have H := Lib.hid (h.add #[.int .u8 0,.int .u64 0] 104)
 have hpB : p <= B.length := h.2.2.2.1
 obtain ⟨cb,hcb⟩ : ∃ z,W.heap.size = z := ⟨_,rfl⟩
 rw [hcb] at H
 have HB := Lib.hid h.2.2.1
 have z := H.out.zeros 65535 (by decide)
 rw [show ((65535 : Nat) : Int) = 65535 from rfl] at z
 have ZE := Lib.hid z
 clear h z
 go_enter Tryz.func77,Tryz.ntmps77
 go_wp2_with fail
 with_reducible refine ZE.out.mono ?_
 rintro e w2 ⟨p', hD,hs,hn⟩
 cases hz : zer (65535 + 1) (B.drop p) with
 | none =>
  obtain rfl := hn hz
  have EZ : Hid (rd0 .una (B.drop p) = none) := Lib.hid (by show (zer (65535 + 1) (B.drop p)).map _ = none; rw [hz]; rfl)
  have D2 := Lib.hid (hD.less (K' := K) (fun q hq => List.mem_cons_of_mem _ hq) HB.out)
  clear hs hn hz hD ZE
  go_wp2_with fail
  go_ret2
  exact NumP.no D2.out EZ.out _
 | some n =>
  obtain ⟨rfl,rfl⟩ := hs n hz
  have hb := zer_bound _ _ _ hz
  have EZ : Hid (rd0 .una (B.drop p) = some (n,n + 1)) := Lib.hid (by show (zer (65535 + 1) (B.drop p)).map _ = _; rw [hz]; rfl)
  have D2 := Lib.hid (hD.less (K' := K) (fun q hq => List.mem_cons_of_mem _ hq) HB.out)
  have un : IntKind.u64.wrap (n : Int) = (n : Int) := IntWalk.u64_in _ (by omega)
  clear hs hn hz hD ZE
  go_wp2_with fail
  go_ret2
  exact NumP.yes (n := n + 1) D2.out EZ.out
set_option maxRecDepth 100000 in
set_option maxHeartbeats 3200000 in
theorem DRd.read_gam {w W : World} {wr : Option (Nat × Bits)} {rd : Option (Nat × ByteArray × Nat)} {rb : Nat} {aB : Option Addr} {dB : Nat} {B : Bits} {p : Nat} {K : List (Nat × Obj)} (h : DRd w wr rd rb aB dB B p K W) :
  Calls Tryz.prog 77 #[.pointer (some ⟨rb,0,none⟩),.agg #[.int .u8 1,.int .u64 0]] W (NumP w wr rd rb aB dB B p K (rd0 .gam (B.drop p))) := by
 have H := Lib.hid (h.add #[.int .u8 1,.int .u64 0] 104)
 have hpB : p <= B.length := h.2.2.2.1
 obtain ⟨cb,hcb⟩ : ∃ z,W.heap.size = z := ⟨_,rfl⟩
 rw [hcb] at H
 have HB := Lib.hid h.2.2.1
 have z := H.out.zeros 47 (by decide)
 rw [show ((47 : Nat) : Int) = 47 from rfl] at z
 have ZE := Lib.hid z
 clear h z
 go_enter Tryz.func77,Tryz.ntmps77
 go_wp2_with fail
 with_reducible refine ZE.out.mono ?_
 rintro e w2 ⟨p', hD,hs,hn⟩
 have r2 := hD.has (List.mem_cons_self ..)
 dsimp only at r2
 have c0 : w2.cell? ⟨cb,0,none⟩ = some (.int .u8 1) := by rw [cell_of_row _ _ _ _ _ _ r2]; rfl
 clear r2
 cases hz : zer (47 + 1) (B.drop p) with
 | none =>
  obtain rfl := hn hz
  have EZ : Hid (rd0 .gam (B.drop p) = none) := Lib.hid (by show (zer (47 + 1) (B.drop p)).bind _ = none; rw [hz]; rfl)
  have D2 := Lib.hid (hD.less (K' := K) (fun q hq => List.mem_cons_of_mem _ hq) HB.out)
  clear hs hn hz hD ZE
  go_wp2_with fail
  go_ret2
  exact NumP.no D2.out EZ.out _
 | some b =>
  obtain ⟨rfl,rfl⟩ := hs b hz
  have hb := zer_bound _ _ _ hz
  have hb9 : b < 48 := hb.1
  have ER : rd0 .gam (B.drop p) = if ((B.drop p).drop (b + 1)).length < b then none else some (num (((B.drop p).drop (b + 1)).take b) + 2 ^ b - 1,b + 1 + b) := by show (zer (47 + 1) (B.drop p)).bind _ = _; rw [hz]; rfl
  rw [List.drop_drop,List.length_drop,show p + (b + 1) = p + b + 1 by omega] at ER
  have hpb : p + b + 1 <= B.length := hD.2.2.2.1
  obtain ⟨q,hq⟩ : ∃ q,2 ^ b = q := ⟨_,rfl⟩
  have hq9 : q <= 140737488355328 := by rw [<- hq]; exact Nat.le_trans (Nat.pow_le_pow_right (by decide) (by omega)) (by decide : 2 ^ 47 <= 140737488355328)
  have hq1 : 1 <= q := by rw [<- hq]; exact Nat.pow_pos (by decide)
  have e3 := u64_pow b q hq (by omega)
  have TK := hD.take b (by omega)
  by_cases ht : p + b + 1 + b <= B.length
  ·have et : tkR B (p + b + 1) b = (num ((B.drop (p + b + 1)).take b),0,p + b + 1 + b) := by unfold tkR; rw [if_pos ht]
   rw [et] at TK
   rw [if_neg (by omega),hq] at ER
   have hx := num_lt ((B.drop (p + b + 1)).take b)
   have hx2 : num ((B.drop (p + b + 1)).take b) < q := by
    rw [<- hq]
    exact Nat.lt_of_lt_of_le hx (Nat.pow_le_pow_right (by decide) (by rw [List.length_take]; omega))
   obtain ⟨x,hxx⟩ : ∃ x,num ((B.drop (p + b + 1)).take b) = x := ⟨_,rfl⟩
   rw [hxx] at TK ER hx2
   have TK := Lib.hid TK
   have ER := Lib.hid ER
   have u1 : IntKind.u64.wrap ((x : Int) + (q : Int)) = (x : Int) + (q : Int) := IntWalk.u64_in _ (by omega)
   have u2 : IntKind.u64.wrap ((x : Int) + (q : Int) - 1) = ((x + q - 1 : Nat) : Int) := by rw [IntWalk.u64_in _ (by omega)]; omega
   clear hs hn hz hD ZE et hxx hx hq hb hpb ht
   go_wp2_with fail
   with_reducible refine TK.out.mono ?_
   rintro e w3 ⟨rfl,hD3⟩
   have D3 := Lib.hid (hD3.less (K' := K) (fun q hq => List.mem_cons_of_mem _ hq) HB.out)
   clear hD3 TK
   go_wp2_with fail
   go_ret2
   refine NumP.yes (n := b + 1 + b) ?_ ER.out
   rw [show p + (b + 1 + b) = p + b + 1 + b by omega]
   exact D3.out
  ·have et : tkR B (p + b + 1) b = (0,4,p + b + 1) := by unfold tkR; rw [if_neg ht]
   rw [et] at TK
   rw [if_pos (by omega)] at ER
   have TK := Lib.hid TK
   have ER := Lib.hid ER
   clear hs hn hz hD ZE et hq hb hpb ht
   go_wp2_with fail
   with_reducible refine TK.out.mono ?_
   rintro e w3 ⟨rfl,hD3⟩
   have D3 := Lib.hid (hD3.less (K' := K) (fun q hq => List.mem_cons_of_mem _ hq) HB.out)
   clear hD3 TK
   go_wp2_with fail
   go_ret2
   exact NumP.no D3.out ER.out _
theorem zet_top {h k : Nat} (hk1 : 1 ≤ k) (hk2 : k ≤ 16) (hh : h ≤ 47 / k) : (h + 1) * k ≤ 60 := by
 have : k = 1 \/ k = 2 \/ k = 3 \/ k = 4 \/ k = 5 \/ k = 6 \/ k = 7 \/ k = 8 \/ k = 9 \/ k = 10 \/ k = 11 \/ k = 12 \/ k = 13 \/ k = 14 \/ k = 15 \/ k = 16 := by omega
 rcases this with rfl | rfl | rfl | rfl | rfl | rfl | rfl | rfl | rfl | rfl | rfl | rfl | rfl | rfl | rfl | rfl <;> omega
set_option maxRecDepth 100000 in
set_option maxHeartbeats 3200000 in
theorem DRd.read_zet {w W : World} {wr : Option (Nat × Bits)} {rd : Option (Nat × ByteArray × Nat)} {rb : Nat} {aB : Option Addr} {dB : Nat} {B : Bits} {p : Nat} {K : List (Nat × Obj)} (h : DRd w wr rd rb aB dB B p K W) (k : Nat) (hk1 : 1 ≤ k) (hk2 : k ≤ 16) :
  Calls Tryz.prog 77 #[.pointer (some ⟨rb,0,none⟩),.agg #[.int .u8 3,.int .u64 (k : Int)]] W (NumP w wr rd rb aB dB B p K (rd0 (.zet k) (B.drop p))) := by
 have H := Lib.hid (h.add #[.int .u8 3,.int .u64 (k : Int)] 104)
 obtain ⟨cb,hcb⟩ : ∃ z,W.heap.size = z := ⟨_,rfl⟩
 rw [hcb] at H
 have HB := Lib.hid h.2.2.1
 obtain ⟨t,ht⟩ : ∃ t,47 / k = t := ⟨_,rfl⟩
 have ht9 : t <= 47 := by rw [<- ht]; exact Nat.div_le_self _ _
 have ZE := Lib.hid (H.out.zeros t (by omega))
 have TOP := Lib.hid (fun (h : Nat) (hh : h <= t) => zet_top hk1 hk2 (by rw [ht]; exact hh))
 have d1 : (47 : Int).tdiv (k : Int) = (t : Int) := by rw [Int.tdiv_eq_ediv_of_nonneg (by omega),<- ht]; simp
 have d2 : (47 : Int) / (k : Int) = (t : Int) := by rw [<- ht]; simp
 have wk : IntKind.i64.wrap (k : Int) = (k : Int) := IntWalk.i64_in _ (by omega)
 have wt : IntKind.i64.wrap (t : Int) = (t : Int) := IntWalk.i64_in _ (by omega)
 have i1 : ((k : Int) == 0) = false := beq_eq_false_iff_ne.2 (by omega)
 have ET : Hid (∀ B : Bits,rd0 (.zet k) B = (zer (t + 1) B).bind fun h => (mread (2 ^ ((h + 1) * k) - 2 ^ (h * k)) (B.drop (h + 1))).map fun q => (q.1 + 2 ^ (h * k) - 1,h + 1 + q.2)) := Lib.hid (fun B => by rw [<- ht]; rfl)
 clear h ht
 go_enter Tryz.func77,Tryz.ntmps77
 go_wp2_with fail
 with_reducible refine ZE.out.mono ?_
 rintro e w2 ⟨p', hD,hs,hn⟩
 have r2 := hD.has (List.mem_cons_self ..)
 dsimp only at r2
 have c0 : w2.cell? ⟨cb,0,none⟩ = some (.int .u8 3) := by rw [cell_of_row _ _ _ _ _ _ r2]; rfl
 have c1 : w2.cell? ⟨cb,1,none⟩ = some (.int .u64 (k : Int)) := by rw [cell_of_row _ _ _ _ _ _ r2]; rfl
 clear r2
 cases hz : zer (t + 1) (B.drop p) with
 | none =>
  obtain rfl := hn hz
  have EZ : Hid (rd0 (.zet k) (B.drop p) = none) := Lib.hid (by rw [ET.out,hz]; rfl)
  have D2 := Lib.hid (hD.less (K' := K) (fun q hq => List.mem_cons_of_mem _ hq) HB.out)
  clear hs hn hz hD ZE
  go_wp2_with fail
  go_ret2
  exact NumP.no D2.out EZ.out _
 | some h =>
  obtain ⟨rfl,rfl⟩ := hs h hz
  have hb := zer_bound _ _ _ hz
  have htop := TOP.out h (by omega)
  have ER : rd0 (.zet k) (B.drop p) = (mread (2 ^ ((h + 1) * k) - 2 ^ (h * k)) ((B.drop p).drop (h + 1))).map fun q => (q.1 + 2 ^ (h * k) - 1,h + 1 + q.2) := by rw [ET.out,hz]; rfl
  rw [List.drop_drop,show p + (h + 1) = p + h + 1 by omega] at ER
  obtain ⟨e1,he1⟩ : ∃ e,h * k = e := ⟨_,rfl⟩
  obtain ⟨e2,he2⟩ : ∃ e,(h + 1) * k = e := ⟨_,rfl⟩
  have hlt : e1 < e2 := by rw [<- he1,<- he2,Nat.add_mul]; omega
  rw [he1,he2] at ER
  rw [he2] at htop
  have m1 : IntKind.i64.wrap ((h : Int) * (k : Int)) = (e1 : Int) := by rw [show (h : Int) * (k : Int) = (e1 : Int) by rw [<- he1]; simp]; exact IntWalk.i64_in _ (by omega)
  have wh : IntKind.i64.wrap ((h : Int) + 1) = (h : Int) + 1 := IntWalk.i64_in _ (by omega)
  have m2 : IntKind.i64.wrap (((h : Int) + 1) * (k : Int)) = (e2 : Int) := by rw [show ((h : Int) + 1) * (k : Int) = (e2 : Int) by rw [<- he2]; simp]; exact IntWalk.i64_in _ (by omega)
  obtain ⟨q1,hq1⟩ : ∃ q,2 ^ e1 = q := ⟨_,rfl⟩
  obtain ⟨q2,hq2⟩ : ∃ q,2 ^ e2 = q := ⟨_,rfl⟩
  have hqq : q1 < q2 := by rw [<- hq1,<- hq2]; exact Nat.pow_lt_pow_right (by decide) hlt
  have hq9 : q2 <= 1152921504606846976 := by rw [<- hq2]; exact Nat.le_trans (Nat.pow_le_pow_right (by decide) htop) (by decide : 2 ^ 60 <= 1152921504606846976)
  have hq0 : 1 <= q1 := by rw [<- hq1]; exact Nat.pow_pos (by decide)
  have u1 := u64_pow e1 q1 hq1 (by omega)
  have u2 := u64_pow e2 q2 hq2 (by omega)
  have n1 : min e1 64 = e1 := Nat.min_eq_left (by omega)
  have n2 : min e2 64 = e2 := Nat.min_eq_left (by omega)
  have us : IntKind.u64.wrap ((q2 : Int) - (q1 : Int)) = ((q2 - q1 : Nat) : Int) := by rw [IntWalk.u64_in _ (by omega)]; omega
  rw [hq1,hq2] at ER
  have hc : clog (q2 - q1) <= 62 := Nat.le_trans (clog_pow (k := q2 - q1) (b := 60) (by rw [show (2 : Nat) ^ 60 = 1152921504606846976 from by decide]; omega)) (by decide)
  have SH := Lib.hid (hD.short (q2 - q1) (by omega) hc)
  have ER := Lib.hid ER
  clear hs hn hz hD ZE hq1 hq2 he1 he2 hb hc htop
  go_wp2_with fail
  with_reducible refine SH.out.mono ?_
  rintro e w3 ⟨p3,hD3,hs3,hn3⟩
  have D3 := Lib.hid (hD3.less (K' := K) (fun q hq => List.mem_cons_of_mem _ hq) HB.out)
  cases hm : mread (q2 - q1) (B.drop (p + h + 1)) with
  | none =>
   obtain ⟨v,rfl⟩ := hn3 hm
   have EZ : Hid (rd0 (.zet k) (B.drop p) = none) := Lib.hid (by rw [ER.out,hm]; rfl)
   clear hs3 hn3 hm hD3 SH
   go_wp2_with fail
   go_ret2
   exact NumP.no D3.out EZ.out _
  | some s =>
   obtain ⟨x,n⟩ := s
   obtain ⟨rfl,rfl⟩ := hs3 x n hm
   have EZ : Hid (rd0 (.zet k) (B.drop p) = some (x + q1 - 1,h + 1 + n)) := Lib.hid (by rw [ER.out,hm]; rfl)
   have hx : x <= 1152921504606846976 := by
    have := (mread_bound (by omega) hm).1
    omega
   have v1 : IntKind.u64.wrap ((x : Int) + (q1 : Int)) = (x : Int) + (q1 : Int) := IntWalk.u64_in _ (by omega)
   have v2 : IntKind.u64.wrap ((x : Int) + (q1 : Int) - 1) = ((x + q1 - 1 : Nat) : Int) := by rw [IntWalk.u64_in _ (by omega)]; omega
   clear hs3 hn3 hm hD3 SH
   go_wp2_with fail
   go_ret2
   refine NumP.yes (n := h + 1 + n) ?_ EZ.out
   rw [show p + (h + 1 + n) = p + h + 1 + n by omega]
   exact D3.out
theorem DRd.read0 {w W : World} {wr : Option (Nat × Bits)} {rd : Option (Nat × ByteArray × Nat)} {rb : Nat} {aB : Option Addr} {dB : Nat} {B : Bits} {p : Nat} {K : List (Nat × Obj)} (h : DRd w wr rd rb aB dB B p K W) (c : Cd) (hc : c.ok) :
  Calls Tryz.prog 77 #[.pointer (some ⟨rb,0,none⟩),cdV c] W (NumP w wr rd rb aB dB B p K (rd0 c (B.drop p))) := by
 cases c with
 | una => exact h.read_una
 | gam => exact h.read_gam
 | zet k => exact h.read_zet k hc.1 hc.2
def ReadD (w : World) (wr : Option (Nat × Bits)) (rd : Option (Nat × ByteArray × Nat)) (rb : Nat) (aB : Option Addr) (dB : Nat) (B : Bits) (p : Nat) (K : List (Nat × Obj)) (z : Option (Nat × Nat)) (e : Ending) (w' : World) : Prop :=
 (∀ v n,z = some (v,n) -> e = .returned (.tuple #[.int .u64 (v : Int),.int .i64 0]) /\ DRd w wr rd rb aB dB B (p + n) K w') /\ (z = none -> e = .returned (.tuple #[.int .u64 0,.int .i64 4]) /\ DRd w wr rd rb aB dB B p K w')
theorem cd_most_lt (c : Cd) : c.most < 9223372036854775808 := by
 cases c with
 | una => decide
 | gam => decide
 | zet k => show 281474976710654 < 9223372036854775808; decide
set_option maxRecDepth 100000 in
set_option maxHeartbeats 3200000 in
theorem DRd.read {w W : World} {wr : Option (Nat × Bits)} {rd : Option (Nat × ByteArray × Nat)} {rb : Nat} {aB : Option Addr} {dB : Nat} {B : Bits} {p : Nat} {K : List (Nat × Obj)} (h : DRd w wr rd rb aB dB B p K W) (c : Cd) (hc : c.ok) :
  Calls Tryz.prog 48 #[.pointer (some ⟨rb,0,none⟩),cdV c] W (ReadD w wr rd rb aB dB B p K (ls.rd c (B.drop p))) := by
 have HB := Lib.hid h.2.2.1
 have HPB := Lib.hid h.2.2.2.1
 have CK := Lib.hid (fun W => dcheck_ok c hc W)
 have MO := Lib.hid (fun W => dmost_ok c hc W)
 have RM := Lib.hid (rd_rd0 c hc (B.drop p))
 have hml := cd_most_lt c
 obtain ⟨most,hmost⟩ : ∃ m,c.most = m := ⟨_,rfl⟩
 rw [hmost] at MO RM hml
 obtain ⟨kd,kk,hcd⟩ := cdV_shape c
 have RD := Lib.hid (fun K' W' (h : DRd w wr rd rb aB dB B p K' W') => h.read0 c hc)
 rw [hcd] at CK MO RD ⊢
 have H := Lib.hid (h.add #[.int .u8 kd,.int .u64 kk] 104)
 obtain ⟨cb,hcb⟩ : ∃ z,W.heap.size = z := ⟨_,rfl⟩
 rw [hcb] at H
 have CC : Hid (∀ W' p', DRd w wr rd rb aB dB B p' ((cb,.cells #[.int .u8 kd,.int .u64 kk] 104 (0,0)) :: K) W' -> W'.cell? ⟨cb,0,none⟩ = some (.int .u8 kd) /\ W'.cell? ⟨cb,1,none⟩ = some (.int .u64 kk)) := Lib.hid (fun W' p' h => by
  have r := h.has (List.mem_cons_self ..)
  exact ⟨by rw [cell_of_row _ _ _ _ _ _ r]; rfl,by rw [cell_of_row _ _ _ _ _ _ r]; rfl⟩)
 clear h hmost hcd
 go_enter Tryz.func48,Tryz.ntmps48
 go_wp2_with fail
 with_reducible refine (CK.out _).mono ?_
 rintro e w1 ⟨rfl,k1⟩
 have D1 := Lib.hid (H.out.next k1)
 obtain ⟨-,c1,-⟩ := D1.out.cells
 obtain ⟨q0,q1⟩ := CC.out _ _ D1.out
 clear k1 CK
 go_wp2_with fail
 with_reducible refine (RD.out _ _ D1.out).mono ?_
 rintro e w2 ⟨p2,hD2,hs,hn⟩
 obtain ⟨q0,q1⟩ := CC.out _ _ hD2
 obtain ⟨-,d1,z1⟩ := hD2.cells
 have SB := Lib.hid (fun W' (k : Below w2.heap.size w2 W') => (((hD2.next k).set p HPB.out).less (K' := K) (fun q hq => List.mem_cons_of_mem _ hq) HB.out))
 cases hz : rd0 c (B.drop p) with
 | none =>
  obtain ⟨v,rfl⟩ := hn hz
  have ER : Hid (ls.rd c (B.drop p) = none) := Lib.hid (by rw [RM.out,hz]; rfl)
  have S2 := Lib.hid (SB.out _ (Below.refl _ _))
  clear hs hn hz hD2 RD D1
  go_wp2_with fail
  go_ret2
  exact ⟨fun v' n' e => (by rw [ER.out] at e; cases e),fun _ => ⟨rfl,S2.out⟩⟩
 | some s =>
  obtain ⟨v,n⟩ := s
  obtain ⟨rfl,rfl⟩ := hs v n hz
  have HD2 := Lib.hid hD2
  by_cases hv : v <= most
  ·have ER : Hid (ls.rd c (B.drop p) = some (v,n)) := Lib.hid (by rw [RM.out,hz]; exact if_pos hv)
   clear hs hn hz hD2 RD D1
   go_wp2_with fail
   with_reducible refine (MO.out _).mono ?_
   rintro e w3 ⟨rfl,k3⟩
   have D3 := Lib.hid ((HD2.out.next k3).less (K' := K) (fun q hq => List.mem_cons_of_mem _ hq) HB.out)
   have i1 : decide ((most : Int) < (v : Int)) = false := decide_eq_false (by omega)
   have i1n : decide (most < v) = false := decide_eq_false (by omega)
   clear k3
   go_wp2_with fail
   go_ret2
   exact ⟨fun v' n' e => (by rw [ER.out] at e; cases e; exact ⟨rfl,D3.out⟩),fun e => (by rw [ER.out] at e; cases e)⟩
  ·have ER : Hid (ls.rd c (B.drop p) = none) := Lib.hid (by rw [RM.out,hz]; exact if_neg hv)
   clear hs hn hz hD2 RD D1
   go_wp2_with fail
   with_reducible refine (MO.out _).mono ?_
   rintro e w3 ⟨rfl,k3⟩
   obtain ⟨-,d3,z3⟩ := (HD2.out.next k3).cells
   have S3 := Lib.hid (SB.out _ k3)
   have i1 : decide ((most : Int) < (v : Int)) = true := decide_eq_true (by omega)
   have i1n : decide (most < v) = true := decide_eq_true (by omega)
   clear k3 d1 z1
   go_wp2_with fail
   go_ret2
   exact ⟨fun v' n' e => (by rw [ER.out] at e; cases e),fun _ => ⟨rfl,S3.out⟩⟩
def DTk (w : World) (wr : Option (Nat × Bits)) (rd : Option (Nat × ByteArray × Nat)) (rb : Nat) (aB : Option Addr) (dB : Nat) (B : Bits) (tb p : Nat) (bad : Bool) (K : List (Nat × Obj)) (W : World) : Prop :=
 DRd w wr rd rb aB dB B p ((tb,.cells #[.pointer (some ⟨rb,0,none⟩),.bool bad] 155 (0,0)) :: K) W /\ (∀ q ∈ K,q.1 ≠ tb) /\ BSt K aB B
section
variable {w W W2 : World} {wr : Option (Nat × Bits)} {rd : Option (Nat × ByteArray × Nat)} {rb : Nat} {aB : Option Addr} {dB : Nat} {B : Bits} {tb p : Nat} {bad : Bool} {K K' : List (Nat × Obj)}
theorem DTk.next (h : DTk w wr rd rb aB dB B tb p bad K W) (k : Below W.heap.size W W2) : DTk w wr rd rb aB dB B tb p bad K W2 := ⟨h.1.next k, h.2⟩
theorem DTk.drew (h : DTk w wr rd rb aB dB B tb p bad K W) : DTk w wr rd rb aB dB B tb p bad K W.drew := h.next (Below.drew (Below.refl _ _))
theorem DTk.row (h : DTk w wr rd rb aB dB B tb p bad K W) : W.heap[tb]? = some (.cells #[.pointer (some ⟨rb, 0, none⟩), .bool bad] 155 (0, 0)) := h.1.has (q := (tb, _)) (List.mem_cons_self ..)
theorem DTk.cells (h : DTk w wr rd rb aB dB B tb p bad K W) : W.cell? ⟨tb, 0, none⟩ = some (.pointer (some ⟨rb, 0, none⟩)) ∧ W.cell? ⟨tb, 1, none⟩ = some (.bool bad) ∧ ∀ j, W.frozen? ⟨tb, j, none⟩ = false := by
 have r := h.row
 exact ⟨by rw [cell_of_row _ _ _ _ _ _ r]; rfl,by rw [cell_of_row _ _ _ _ _ _ r]; rfl,fun j => frozen_of_row W tb j _ _ r⟩
theorem DTk.below (h : DTk w wr rd rb aB dB B tb p bad K W) : Below w.heap.size w W := h.1.1.below
theorem DTk.has (h : DTk w wr rd rb aB dB B tb p bad K W) {q : Nat × Obj} (hq : q ∈ K) : W.heap[q.1]? = some q.2 := h.1.has (List.mem_cons_of_mem _ hq)
theorem DTk.ne (h : DTk w wr rd rb aB dB B tb p bad K W) : tb ≠ rb := h.1.2.1 (tb, _) (List.mem_cons_self ..)
theorem DTk.mark (h : DTk w wr rd rb aB dB B tb p bad K W) (b : Bool) : DTk w wr rd rb aB dB B tb p b K (W.setCell ⟨tb, 1, none⟩ (.bool b)) := by
 have hne := h.ne
 obtain ⟨⟨h1,h2,h3,h4⟩,h5,h6⟩ := h
 have f := (h1.sub (ks' := (tb,.cells #[.pointer (some ⟨rb,0,none⟩),.bool bad] 155 (0,0)) :: (rb,.cells #[.slice aB B.length dB,.int .i64 (p : Int)] 29 (0,0)) :: K) (fun q hq => by
  simp only [List.mem_cons] at hq ⊢
  rcases hq with hq | hq | hq
  ·exact .inr (.inl hq)
  ·exact .inl hq
  ·exact .inr (.inr hq))).store (j := 1) (.bool b) (fun q hq => by
  rcases List.mem_cons.1 hq with rfl | hq
  ·exact fun e => hne e.symm
  ·exact h5 q hq)
 refine ⟨⟨f.sub (fun q hq => ?_),fun q hq => ?_,h6.more (fun q hq => List.mem_cons_of_mem _ hq),h4⟩,h5,h6⟩
 ·simp only [List.mem_cons] at hq ⊢
  rcases hq with hq | hq | hq
  ·exact .inr (.inl hq)
  ·exact .inl hq
  ·exact .inr (.inr hq)
 ·rcases List.mem_cons.1 hq with rfl | hq
  ·exact hne
  ·exact h2 q (List.mem_cons_of_mem _ hq)
theorem DTk.add (h : DTk w wr rd rb aB dB B tb p bad K W) (row : Array Value) (T : TypeId) : DTk w wr rd rb aB dB B tb p bad ((W.heap.size, .cells row T (0, 0)) :: K) (W.alloc (.cells row T)) := by
 have ht := lt_of_block h.row
 obtain ⟨h1,h5,h6⟩ := h
 refine ⟨(h1.add row T).less (fun q hq => ?_) (h6.more (fun q hq => List.mem_cons_of_mem _ (List.mem_cons_of_mem _ hq))),fun q hq => ?_,h6.more (fun q hq => List.mem_cons_of_mem _ hq)⟩
 ·simp only [List.mem_cons] at hq ⊢
  rcases hq with hq | hq | hq
  ·exact .inr (.inl hq)
  ·exact .inl hq
  ·exact .inr (.inr hq)
 ·rcases List.mem_cons.1 hq with rfl | hq
  ·show W.heap.size ≠ tb
   omega
  ·exact h5 q hq
theorem DTk.less (h : DTk w wr rd rb aB dB B tb p bad K W) (hs : ∀ q ∈ K', q ∈ K) (hb : BSt K' aB B) : DTk w wr rd rb aB dB B tb p bad K' W :=
 ⟨h.1.less (fun q hq => by
  rcases List.mem_cons.1 hq with hq | hq
  ·exact List.mem_cons.2 (.inl hq)
  ·exact List.mem_cons_of_mem _ (hs q hq)) (hb.more (fun q hq => List.mem_cons_of_mem _ hq)),fun q hq => h.2.1 q (hs q hq),hb⟩
end
def TakeD (o : Option (Nat × Nat)) (most : Nat) (bad : Bool) (v p' : Nat) (bad' : Bool) : Prop :=
 (∀ q,o = some q -> bad = false -> v = q.1 /\ p' = q.2 /\ bad' = false) /\ (bad = true \/ o = none -> v = 0 /\ bad' = true) /\ v <= most
def DTakeP (w : World) (wr : Option (Nat × Bits)) (rd : Option (Nat × ByteArray × Nat)) (rb : Nat) (aB : Option Addr) (dB : Nat) (B : Bits) (tb : Nat) (K : List (Nat × Obj)) (z : Option (Nat × Nat)) (most : Nat) (bad : Bool) (e : Ending) (w' : World) : Prop :=
 ∃ (v p' : Nat) (bad' : Bool),e = .returned (.int .i64 (v : Int)) /\ TakeD z most bad v p' bad' /\ DTk w wr rd rb aB dB B tb p' bad' K w'
set_option maxRecDepth 100000 in
set_option maxHeartbeats 3200000 in
theorem DTk.take {w W : World} {wr : Option (Nat × Bits)} {rd : Option (Nat × ByteArray × Nat)} {rb : Nat} {aB : Option Addr} {dB : Nat} {B : Bits} {tb p : Nat} {bad : Bool} {K : List (Nat × Obj)} (h : DTk w wr rd rb aB dB B tb p bad K W) (c : Cd) (hc : c.ok) (most : Nat) (hm : most ≤ 1000000) :
  Calls Tryz.prog 87 #[.pointer (some ⟨tb,0,none⟩),cdV c,.int .i64 (most : Int)] W (DTakeP w wr rd rb aB dB B tb K (tk B c most p) most bad) := by
 have HB6 := Lib.hid h.2.2
 have HB := Lib.hid (fun v n (h : ls.rd c (B.drop p) = some (v,n)) => rd_bound c hc h)
 obtain ⟨o,ho⟩ : ∃ o,ls.rd c (B.drop p) = o := ⟨_,rfl⟩
 have TE : Hid (tk B c most p = o.bind fun q => if q.1 <= most then some (q.1,p + q.2) else none) := Lib.hid (by unfold tk; rw [ho])
 have hmost := cd_most_lt c
 obtain ⟨cm,hcm⟩ : ∃ m,c.most = m := ⟨_,rfl⟩
 rw [hcm] at HB hmost
 rw [ho] at HB
 obtain ⟨kd,kk,hcd⟩ := cdV_shape c
 have RD := Lib.hid (fun K' W' (h : DTk w wr rd rb aB dB B tb p bad K' W') => h.1.read c hc)
 rw [hcd,ho] at RD
 rw [hcd]
 have H := Lib.hid (h.add #[.int .u8 kd,.int .u64 kk] 104)
 obtain ⟨cb,hcb⟩ : ∃ z,W.heap.size = z := ⟨_,rfl⟩
 rw [hcb] at H
 obtain ⟨K2,hK2⟩ : ∃ K', (cb,Obj.cells #[.int .u8 kd,.int .u64 kk] 104 (0,0)) :: K = K' := ⟨_,rfl⟩
 have CC : Hid (∀ W' p' b', DTk w wr rd rb aB dB B tb p' b' K2 W' -> W'.cell? ⟨cb,0,none⟩ = some (.int .u8 kd) /\ W'.cell? ⟨cb,1,none⟩ = some (.int .u64 kk) /\ W'.cell? ⟨tb,0,none⟩ = some (.pointer (some ⟨rb,0,none⟩))) := Lib.hid (fun W' p' b' h => by
  have r : W'.heap[cb]? = some (.cells #[.int .u8 kd,.int .u64 kk] 104 (0,0)) := h.has (q := (cb,_)) (by rw [<- hK2]; exact List.mem_cons_self ..)
  exact ⟨by rw [cell_of_row _ _ _ _ _ _ r]; rfl,by rw [cell_of_row _ _ _ _ _ _ r]; rfl,h.cells.1⟩)
 have LS : Hid (∀ W' p' b', DTk w wr rd rb aB dB B tb p' b' K2 W' -> DTk w wr rd rb aB dB B tb p' b' K W') := Lib.hid (fun W' p' b' h => h.less (fun q hq => by rw [<- hK2]; exact List.mem_cons_of_mem _ hq) HB6.out)
 have TT : Hid (∀ W' p', DRd w wr rd rb aB dB B p' ((tb,.cells #[.pointer (some ⟨rb,0,none⟩),.bool bad] 155 (0,0)) :: K2) W' -> DTk w wr rd rb aB dB B tb p' bad K2 W') := Lib.hid (by
  rw [hK2] at H
  exact fun W' p' h => ⟨h,H.out.2⟩)
 rw [hK2] at H
 have um : IntKind.u64.wrap (most : Int) = (most : Int) := IntWalk.u64_in _ (by omega)
 obtain ⟨c0,c1,c2⟩ := CC.out _ _ _ H.out
 clear h hcd hcm ho hK2
 go_enter Tryz.func87,Tryz.ntmps87
 go_upto_region 1 with fail
 generalize World.alloc W _ = W0 at H c0 c1 c2 ⊢
 have NOX : Hid (∀ W' p', DTk w wr rd rb aB dB B tb p' true K2 W' -> (bad = true \/ tk B c most p = none) -> DTakeP w wr rd rb aB dB B tb K (tk B c most p) most bad (.returned (.int .i64 0)) W') := Lib.hid (fun W' p' h hno => ⟨0,p', true,rfl,⟨fun q hq hb => (by
  rcases hno with h | h
  ·rw [hb] at h; cases h
  ·rw [hq] at h; cases h),fun _ => ⟨rfl,rfl⟩,Nat.zero_le _⟩,LS.out _ _ _ h⟩)
 cases o with
 | none =>
  have TN : Hid (tk B c most p = none) := Lib.hid (by rw [TE.out]; rfl)
  have RN : Hid (∀ W', DTk w wr rd rb aB dB B tb p bad K2 W' -> Calls Tryz.prog 48 #[.pointer (some ⟨rb,0,none⟩),.agg #[.int .u8 kd,.int .u64 kk]] W' fun e w' => e = .returned (.tuple #[.int .u64 0,.int .i64 4]) /\ DTk w wr rd rb aB dB B tb p bad K2 w') := Lib.hid (fun W' h => (RD.out _ _ h).mono (fun e w' h => ⟨(h.2 rfl).1,TT.out _ _ (h.2 rfl).2⟩))
  go_region_held3 (fun w' => w'.cell? ⟨cb,0,none⟩ = some (.int .u8 kd) /\ w'.cell? ⟨cb,1,none⟩ = some (.int .u64 kk) /\ w'.cell? ⟨tb,0,none⟩ = some (.pointer (some ⟨rb,0,none⟩)))
   (first | exact CC.out _ _ _ H.out | exact CC.out _ _ _ H.out.drew | exact CC.out _ _ _ (by assumption) | exact CC.out _ _ _ (DTk.drew (by assumption)))
   (first | (go_at_call 48; refine (RN.out _ (by first | exact H.out.drew | exact H.out)).mono ?_; rintro e w1 ⟨rfl,h3⟩))
  have D3 := Lib.hid (h3.mark true)
  obtain ⟨-,z1,z⟩ := h3.cells
  have z2 := z 1
  have FIN := Lib.hid (NOX.out _ _ D3.out (.inr TN.out))
  clear h3 z RD RN H c0 c1 c2
  go_wp2_with fail
  go_ret
  exact FIN.out
 | some q =>
  obtain ⟨v,n⟩ := q
  have hv9 := (HB.out v n rfl).1
  have wv : IntKind.i64.wrap (v : Int) = (v : Int) := IntWalk.i64_in _ (by omega)
  have RN : Hid (∀ W', DTk w wr rd rb aB dB B tb p bad K2 W' -> Calls Tryz.prog 48 #[.pointer (some ⟨rb,0,none⟩),.agg #[.int .u8 kd,.int .u64 kk]] W' fun e w' => e = .returned (.tuple #[.int .u64 (v : Int),.int .i64 0]) /\ DTk w wr rd rb aB dB B tb (p + n) bad K2 w') := Lib.hid (fun W' h => (RD.out _ _ h).mono (fun e w' h => ⟨(h.1 v n rfl).1,TT.out _ _ (h.1 v n rfl).2⟩))
  go_region_held3 (fun w' => w'.cell? ⟨cb,0,none⟩ = some (.int .u8 kd) /\ w'.cell? ⟨cb,1,none⟩ = some (.int .u64 kk) /\ w'.cell? ⟨tb,0,none⟩ = some (.pointer (some ⟨rb,0,none⟩)))
   (first | exact CC.out _ _ _ H.out | exact CC.out _ _ _ H.out.drew | exact CC.out _ _ _ (by assumption) | exact CC.out _ _ _ (DTk.drew (by assumption)))
   (first | (go_at_call 48; refine (RN.out _ (by first | exact H.out.drew | exact H.out)).mono ?_; rintro e w1 ⟨rfl,h3⟩))
  obtain ⟨-,z1,z⟩ := h3.cells
  have z2 := z 1
  by_cases hv : v <= most
  ·have TS : Hid (tk B c most p = some (v,p + n)) := Lib.hid (by rw [TE.out]; exact if_pos hv)
   have i1 : decide ((most : Int) < (v : Int)) = false := decide_eq_false (by omega)
   have i1n : decide (most < v) = false := decide_eq_false (by omega)
   have D3 := Lib.hid h3
   clear h3 z RD RN H c0 c1 c2 HB
   cases bad with
   | true =>
    have FIN := Lib.hid (NOX.out _ _ D3.out (.inl rfl))
    go_wp2_with fail
    exact bodyPost_ret (v := .int .i64 0) (by simp [results,Tryz.results87,go_sem]) rfl FIN.out
   | false =>
    have FIN : Hid (DTakeP w wr rd rb aB dB B tb K (tk B c most p) most false (.returned (.int .i64 (v : Int))) w1) := Lib.hid ⟨v,p + n,false,rfl,⟨fun q hq _ => (by rw [TS.out] at hq; cases hq; exact ⟨rfl,rfl,rfl⟩),fun h => (by
     rcases h with h | h
     ·cases h
     ·rw [TS.out] at h; cases h),hv⟩,LS.out _ _ _ D3.out⟩
    go_wp2_with fail
    go_ret
    exact FIN.out
  ·have TN : Hid (tk B c most p = none) := Lib.hid (by rw [TE.out]; exact if_neg hv)
   have i1 : decide ((most : Int) < (v : Int)) = true := decide_eq_true (by omega)
   have i1n : decide (most < v) = true := decide_eq_true (by omega)
   have D3 := Lib.hid (h3.mark true)
   have FIN := Lib.hid (NOX.out _ _ D3.out (.inr TN.out))
   clear h3 z RD RN H c0 c1 c2 HB
   go_wp2_with fail
   go_ret
   exact FIN.out
structure Rw where
 T : TypeId
 v : Value
 xs : List Value
def Rw.owned (r : Rw) (W : World) : Prop := W.ownsRow 0 r.T 1 r.v r.xs.length r.xs
def Rws (w : World) (wr : Option (Nat × Bits)) (rd : Option (Nat × ByteArray × Nat)) : List Rw → List (Nat × Obj) → World → Prop
 | [],K,W => FS w wr rd K W
 | r :: rs,K,W => ∃ ka,KA ka r.v /\ r.owned W /\ Off K r.v /\ Rws w wr rd rs (ka ++ K) W
section
variable {w W W2 : World} {wr wr' : Option (Nat × Bits)} {rd rd' : Option (Nat × ByteArray × Nat)} {rs : List Rw} {K K' : List (Nat × Obj)}
theorem Rws.sub : ∀ {rs : List Rw} {K K' : List (Nat × Obj)}, Rws w wr rd rs K W → (∀ p ∈ K', p ∈ K) → Rws w wr rd rs K' W
 | [],_,_,h,k => FS.sub h k
 | _ :: _,_,_,⟨ka,h1,h2,h3,h4⟩,k => ⟨ka,h1,h2,h3.sub k,h4.sub (fun p hp => by
  rcases List.mem_append.1 hp with hp | hp
  ·exact List.mem_append_left _ hp
  ·exact List.mem_append_right _ (k p hp))⟩
theorem Rws.fs : ∀ {rs : List Rw} {K : List (Nat × Obj)}, Rws w wr rd rs K W → FS w wr rd K W
 | [],_,h => h
 | _ :: _,_,⟨_,_,_,_,h4⟩ => (Rws.fs h4).sub (fun _ hp => List.mem_append_right _ hp)
theorem Rws.has (h : Rws w wr rd rs K W) {p : Nat × Obj} (hp : p ∈ K) : W.heap[p.1]? = some p.2 := h.fs.row (b := p.1) (o := p.2) hp
theorem Rws.below (h : Rws w wr rd rs K W) : Below w.heap.size w W := h.fs.below
theorem KA.off {ka kb : List (Nat × Obj)} {v u : Value} (ha : KA ka v) (hb : KA kb u) (h : Off ka u) : Off kb v := fun p hp e => by
 obtain ⟨o,ho⟩ := ha.1 p.1 e.symm
 exact h _ ho (hb.2 p hp)
theorem Rws.swap {a b : Rw} (h : Rws w wr rd (a :: b :: rs) K W) : Rws w wr rd (b :: a :: rs) K W := by
 obtain ⟨ka,h1,h2,h3,kb,h4,h5,h6,h7⟩ := h
 refine ⟨kb,h4,h5,h6.sub (fun p hp => List.mem_append_right _ hp),ka,h1,h2,(h1.off h4 (h6.sub (fun p hp => List.mem_append_left _ hp))).app h3,h7.sub (fun p hp => ?_)⟩
 simp only [List.mem_append] at hp ⊢
 rcases hp with hp | hp | hp
 ·exact .inr (.inl hp)
 ·exact .inl hp
 ·exact .inr (.inr hp)
theorem Rws.perm {rs rs' : List Rw} (hp : List.Perm rs rs') : ∀ {K : List (Nat × Obj)}, Rws w wr rd rs K W → Rws w wr rd rs' K W := by
 induction hp with
 | nil => exact fun h => h
 | cons a _ ih => exact fun ⟨ka,h1,h2,h3,h4⟩ => ⟨ka,h1,h2,h3,ih h4⟩
 | swap a b l => exact fun h => h.swap
 | trans _ _ ih1 ih2 => exact fun h => ih2 (ih1 h)
theorem Rw.same {r : Rw} {ka Ka Kb : List (Nat × Obj)} (h : r.owned W) (hk : KA ka r.v) (f : FS w wr rd (ka ++ Ka) W) (f2 : FS w wr' rd' (ka ++ Kb) W2) : r.owned W2 :=
 own_same2 h (fun g hg => by
  obtain ⟨o,ho⟩ := hk.1 g hg
  rw [f.row (b := g) (o := o) (List.mem_append_left _ ho),f2.row (b := g) (o := o) (List.mem_append_left _ ho)])
theorem Rws.step : ∀ {rs : List Rw} {K K' : List (Nat × Obj)}, Rws w wr rd rs K W → (∀ Kx, FS w wr rd (Kx ++ K) W → FS w wr' rd' (Kx ++ K') W2) → (∀ p ∈ K', (∃ o, (p.1, o) ∈ K) ∨ W.heap.size ≤ p.1) → Rws w wr' rd' rs K' W2
 | [],_,_,h,hs,_ => hs [] h
 | r :: rs,K,K', ⟨ka,h1,h2,h3,h4⟩,hs,hk => by
  have f := h4.fs
  have g := Rws.step (K' := ka ++ K') h4 (fun Kx hx => by
   rw [<- List.append_assoc] at hx ⊢
   exact hs _ hx) (fun p hp => by
   rcases List.mem_append.1 hp with hp | hp
   ·exact .inl ⟨p.2,List.mem_append_left _ hp⟩
   ·rcases hk p hp with ⟨o,ho⟩ | hl
    ·exact .inl ⟨o,List.mem_append_right _ ho⟩
    ·exact .inr hl)
  refine ⟨ka,h1,Rw.same h2 h1 f g.fs,fun p hp e => ?_,g⟩
  rcases hk p hp with ⟨o,ho⟩ | hl
  ·exact h3 _ ho e
  ·obtain ⟨o,ho⟩ := h1.1 p.1 e.symm
   have := lt_of_block (f.row (b := p.1) (o := o) (List.mem_append_left _ ho))
   omega
theorem Rws.next (h : Rws w wr rd rs K W) (k : Below W.heap.size W W2) : Rws w wr rd rs K W2 := h.step (fun _ hx => hx.next k) (fun p hp => .inl ⟨p.2, hp⟩)
theorem Rws.more {js : List (Nat × Obj)} (h : Rws w wr rd rs K W) (k : Below W.heap.size W W2) (hj : ∀ p ∈ js, W.heap.size ≤ p.1 ∧ W2.heap[p.1]? = some p.2) : Rws w wr rd rs (js ++ K) W2 :=
 h.step (fun Kx hx => (hx.more k hj).sub (fun p hp => by
  simp only [List.mem_append] at hp ⊢
  rcases hp with hp | hp | hp
  ·exact .inr (.inl hp)
  ·exact .inl hp
  ·exact .inr (.inr hp))) (fun p hp => (List.mem_append.1 hp).elim (fun hp => .inr (hj p hp).1) (fun hp => .inl ⟨p.2,hp⟩))
theorem Rws.add (h : Rws w wr rd rs K W) (row : Array Value) (T : TypeId) : Rws w wr rd rs ((W.heap.size, .cells row T (0, 0)) :: K) (W.alloc (.cells row T)) :=
 h.more (js := [(W.heap.size,.cells row T (0,0))]) ((Below.refl _ _).alloc (Nat.le_refl _) _) (fun p hp => by rw [List.mem_singleton.1 hp]; exact ⟨Nat.le_refl _,heap_alloc_new W _⟩)
theorem Rws.turn {b : Nat} {o o' : Obj} (h : Rws w wr rd rs ((b, o) :: K) W) (k : Keeps W W2 (fun x => x = b)) (hb : W2.heap[b]? = some o') (hne : ∀ p ∈ K, p.1 ≠ b) : Rws w wr rd rs ((b, o') :: K) W2 := by
 have key : ∀ {rs : List Rw} {K : List (Nat × Obj)},Rws w wr rd rs ((b,o) :: K) W -> (∀ p ∈ K,p.1 ≠ b) -> Rws w wr rd rs ((b,o') :: K) W2 := by
  intro rs
  induction rs with
  | nil => exact fun h hne => FS.turn h k hb hne
  | cons r rs ih =>
   rintro K ⟨ka,h1,h2,h3,h4⟩ hne
   have hnk : ∀ p ∈ ka,p.1 ≠ b := fun p hp e => h3 (b,o) (List.mem_cons_self ..) (by rw [<- e]; exact h1.2 p hp)
   have g := ih (h4.sub (K' := (b,o) :: (ka ++ K)) (fun p hp => by
    simp only [List.mem_cons,List.mem_append] at hp ⊢
    rcases hp with hp | hp | hp
    ·exact .inr (.inl hp)
    ·exact .inl hp
    ·exact .inr (.inr hp))) (fun p hp => (List.mem_append.1 hp).elim (hnk p) (hne p))
   have g2 := g.sub (K' := ka ++ ((b,o') :: K)) (fun p hp => by
    simp only [List.mem_cons,List.mem_append] at hp ⊢
    rcases hp with hp | hp | hp
    ·exact .inr (.inl hp)
    ·exact .inl hp
    ·exact .inr (.inr hp))
   refine ⟨ka,h1,Rw.same h2 h1 h4.fs g2.fs,fun p hp e => ?_,g2⟩
   rcases List.mem_cons.1 hp with rfl | hp
   ·exact h3 (b,o) (List.mem_cons_self ..) e
   ·exact h3 p (List.mem_cons_of_mem _ hp) e
 exact key h hne
theorem Rws.store {b j : Nat} {row : Array Value} {T : TypeId} (v : Value) (h : Rws w wr rd rs ((b, .cells row T (0, 0)) :: K) W) (hne : ∀ p ∈ K, p.1 ≠ b) : Rws w wr rd rs ((b, .cells (row.setIfInBounds j v) T (0, 0)) :: K) (W.setCell ⟨b, j, none⟩ v) :=
 h.turn ((Keeps.refl W (fun x => x = b)).setCell (p := ⟨b,j,none⟩) (.inl rfl) v) (heap_setCell_same W b j _ _ v (h.has (p := (b,.cells row T (0,0))) (List.mem_cons_self ..))) hne
theorem Rws.pushIn {ka : List (Nat × Obj)} {v v' : Value} {T : TypeId} {n : Nat} {xs : List Value} (ha : KA ka v) (hg : W.grownBy W2 v.ownBlock) (own : W2.ownsRow 0 T 1 v' n xs) (hw : v'.ownBlock = v.ownBlock ∨ v'.ownBlock = some W.heap.size) :
  ∀ {rs : List Rw} {K : List (Nat × Obj)},Rws w wr rd rs (ka ++ K) W -> Off K v -> ∃ k2,KA k2 v' /\ Off K v' /\ Rws w wr rd rs (k2 ++ K) W2
 | [],_,h,ho => by
  obtain ⟨k2,h1,h2,h3,_⟩ := FS.push h ha ho hg own hw
  exact ⟨k2,h1,h2,h3⟩
 | r :: rs,K,⟨kr,h1,h2,h3,h4⟩,ho => by
  have mv : ∀ (x y z : List (Nat × Obj)),∀ p ∈ y ++ (x ++ z),p ∈ x ++ (y ++ z) := fun x y z p hp => by
   simp only [List.mem_append] at hp ⊢
   rcases hp with hp | hp | hp
   ·exact .inr (.inl hp)
   ·exact .inl hp
   ·exact .inr (.inr hp)
  obtain ⟨k2,g1,g2,g3⟩ := Rws.pushIn ha hg own hw (h4.sub (mv kr ka K)) ((ha.off h1 (h3.sub (fun p hp => List.mem_append_left _ hp))).app ho)
  have g4 := g3.sub (mv k2 kr K)
  refine ⟨k2,g1,g2.sub (fun p hp => List.mem_append_right _ hp),kr,h1,Rw.same h2 h1 h4.fs g4.fs,?_,g4⟩
  exact (h1.off g1 (g2.sub (fun p hp => List.mem_append_left _ hp))).app (h3.sub (fun p hp => List.mem_append_right _ hp))
theorem Rws.push {v v' : Value} {T : TypeId} {xs xs' : List Value} (h : Rws w wr rd (⟨T, v, xs⟩ :: rs) K W) (own : W2.ownsRow 0 T 1 v' xs'.length xs') (hg : W.grownBy W2 v.ownBlock) (hw : v'.ownBlock = v.ownBlock ∨ v'.ownBlock = some W.heap.size) : Rws w wr rd (⟨T, v', xs'⟩ :: rs) K W2 := by
 obtain ⟨ka,h1,_,h3,h4⟩ := h
 obtain ⟨k2,g1,g2,g3⟩ := Rws.pushIn h1 hg own hw h4 h3
 exact ⟨k2,g1,own,g2,g3⟩
theorem Rws.own {r : Rw} (h : Rws w wr rd (r :: rs) K W) : r.owned W := by
 obtain ⟨ka,h1,h2,h3⟩ := h
 exact h2
theorem Rws.lift {T : TypeId} (h : Rws w wr rd rs K W) : Rws w wr rd (⟨T, .slice none 0 0, []⟩ :: rs) K W := ⟨[], KA.none, World.ownsRow_nil _ _ _ _, Off.none _, h⟩
theorem Rws.fresh {v : Value} {T : TypeId} {xs : List Value} (h : Rws w wr rd rs K W) (k : Below W.heap.size W W2) (own : W2.ownsRow W.heap.size T 1 v xs.length xs) : Rws w wr rd (⟨T, v, xs⟩ :: rs) K W2 := by
 have own0 := own_base own (Nat.zero_le _)
 obtain ⟨k2,h1,h2,h3⟩ := own_ks own0
 have hge : ∀ p ∈ k2,W.heap.size <= p.1 := fun p hp => (own.lt p.1 (h2 p hp).symm).1
 refine ⟨k2,⟨h1,h2⟩,own0,fun p hp e => ?_,h.more k (fun p hp => ⟨hge p hp,h3 p hp⟩)⟩
 have := (own.lt p.1 e.symm).1
 have := lt_of_block (h.has hp)
 omega
end
end Go.Proofs.YtflnpcgnenhogaaGreatDoor.ls
