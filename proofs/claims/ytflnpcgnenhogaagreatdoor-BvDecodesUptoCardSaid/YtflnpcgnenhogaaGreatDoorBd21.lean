/- Own lemmas, laid together. -/
import Derived.Test.YtflnpcgnenhogaaGreatDoorBd19
import Derived.Test.YtflnpcgnenhogaaGreatDoorBd1
import Derived.Deep.RegionHeld3
namespace Go.Proofs.YtflnpcgnenhogaaGreatDoor.ls
open Go.RowKit Go.Proofs.YtflnpcgnenhogaaGreatDoor.own Go.Proofs.YtflnpcgnenhogaaGreatDoor.bit

theorem cdV_shape (c : Cd) : ∃ kd kk, cdV c = .agg #[.int .u8 kd, .int .u64 kk] := by cases c <;> exact ⟨_, _, rfl⟩
theorem pcs_len (c : Cd) (v : Nat) : (pcs c v).1 + 1 + (pcs c v).2.2 = (cb c v).length := by rw [cb_pcs, List.length_append, un_length, ofN_length]
theorem pcs_lt (c : Cd) (hc : c.ok) (v : Nat) (hv : v ≤ c.most) : (pcs c v).2.1 < 2 ^ (pcs c v).2.2 ∧ (pcs c v).2.2 ≤ 63 ∧ (pcs c v).1 ≤ 65535 := by
 cases c with
 | una => exact ⟨by show 0 < 1; decide,by show 0 <= 63; decide,hv⟩
 | gam =>
  have hv' : v <= 281474976710654 := hv
  have h1 := Nat.log2_self_le (n := v + 1) (by omega)
  have h2 := @Nat.lt_log2_self (v + 1)
  have h3 : Nat.log2 (v + 1) < 48 := log_lt (by rw [show (2 : Nat) ^ 48 = 281474976710656 from rfl]; omega)
  show v + 1 - 2 ^ Nat.log2 (v + 1) < 2 ^ Nat.log2 (v + 1) /\ Nat.log2 (v + 1) <= 63 /\ Nat.log2 (v + 1) <= 65535
  rw [Nat.pow_succ] at h2
  omega
 | zet k =>
  have hv' : v <= 281474976710654 := hv
  obtain ⟨hk1,hk2⟩ : 1 <= k /\ k <= 16 := hc
  obtain ⟨p1,p2⟩ := zet_parts k v hk1
  have h3 : Nat.log2 (v + 1) < 48 := log_lt (by rw [show (2 : Nat) ^ 48 = 281474976710656 from rfl]; omega)
  obtain ⟨b,hb⟩ : ∃ b,Nat.log2 (v + 1) = b := ⟨_,rfl⟩
  have hle := Nat.div_le_self b k
  have hmul := Nat.div_mul_le_self b k
  show (shP _ _).1 < 2 ^ (shP _ _).2 /\ (shP _ _).2 <= 63 /\ Nat.log2 (v + 1) / k <= 65535
  rw [hb] at p1 p2 h3 ⊢
  have hto : 2 ^ ((b / k + 1) * k) <= 9223372036854775808 := pow63 (by rw [Nat.add_mul,Nat.one_mul]; omega)
  obtain ⟨K,hK⟩ : ∃ K,2 ^ ((b / k + 1) * k) - 2 ^ (b / k * k) = K := ⟨_,rfl⟩
  obtain ⟨V,hV⟩ : ∃ V,v + 1 - 2 ^ (b / k * k) = V := ⟨_,rfl⟩
  rw [hK,hV] at p1 ⊢
  have hK2 : K <= 2 ^ 63 := by rw [show (2 : Nat) ^ 63 = 9223372036854775808 from rfl,<- hK]; exact Nat.le_trans (Nat.sub_le _ _) hto
  have hcl := clog_pow hK2
  have h5 := @clog_le K
  unfold shP
  split
  ·rename_i hm
   refine ⟨?_,by show clog K - 1 <= 63; omega,by omega⟩
   show V < 2 ^ (clog K - 1)
   by_cases h2 : 2 <= K
   ·have := clog_lt h2; have := pow_clog h2; omega
   ·rw [clog_one (by omega)] at hm; omega
  ·refine ⟨?_,hcl,by omega⟩
   show V + (2 ^ clog K - K) < 2 ^ clog K
   omega

set_option maxRecDepth 100000 in
set_option maxHeartbeats 1600000 in
theorem clen_any (c : Cd) (hc : c.ok) (v : Nat) (hv : v ≤ c.most) (w : World) : Calls Tryz.prog 98 #[cdV c, .int .u64 (v : Int)] w fun e w' => e = .returned (.tuple #[.int .i64 ((cb c v).length : Int), .int .i64 0]) ∧ Below w.heap.size w w' := by
 have MY := Lib.hid (fun W => may_any c hc v W)
 rw [decide_eq_true hv] at MY
 have SP := Lib.hid (fun W => split_any c hc v hv W)
 obtain ⟨q1,q2,q3⟩ := pcs_lt c hc v hv
 have QL := Lib.hid (pcs_len c v)
 obtain ⟨kd,kk,hcd⟩ := cdV_shape c
 rw [hcd] at MY SP ⊢
 unfold splV at SP
 obtain ⟨z,pv,pn,hq⟩ : ∃ z pv pn,pcs c v = (z,(pv,pn)) := ⟨_,_,_,rfl⟩
 rw [hq] at SP QL q2 q3
 dsimp only at SP QL q2 q3
 have i1 : IntKind.i64.wrap ((z : Int) + 1) = ((z + 1 : Nat) : Int) := by rw [IntWalk.i64_in _ (by omega)]; omega
 have i2 : IntKind.i64.wrap (((z + 1 : Nat) : Int) + (pn : Int)) = ((z + 1 + pn : Nat) : Int) := by rw [IntWalk.i64_in _ (by omega)]; omega
 have i3 : IntKind.i64.wrap (((z + 1 + pn : Nat) : Int) + 0) = ((z + 1 + pn : Nat) : Int) := by rw [IntWalk.i64_in _ (by omega)]; omega
 have I := Lib.hid (And.intro i1 (And.intro i2 i3))
 have QB : Hid (z + 1 + pn <= 70000) := Lib.hid (by omega)
 rw [<- QL.out]
 clear hq hcd q1 q2 q3 i1 i2 i3 hv
 go_enter Tryz.func98,Tryz.ntmps98
 go_wp2_with fail
 refine (MY.out _).mono ?_
 rintro e w1 ⟨rfl,k1⟩
 have r1 := box_keeps k1
 have c0 : w1.cell? ⟨w.heap.size,0,none⟩ = some (.int .u8 kd) := by rw [cell_of_row _ _ _ _ _ _ r1]; rfl
 have c1 : w1.cell? ⟨w.heap.size,1,none⟩ = some (.int .u64 kk) := by rw [cell_of_row _ _ _ _ _ _ r1]; rfl
 have K : Hid (Below w.heap.size w w1) := Lib.hid (below_alloc k1)
 clear k1 r1
 go_wp2_with fail
 refine (SP.out _).mono ?_
 rintro e w2 ⟨rfl,k2⟩
 have K2 : Hid (Below w.heap.size w w2) := Lib.hid (K.out.trans (k2.mono K.out.size))
 clear k2
 have hz := QB.out
 go_wp2_with fail
 go_ret2
 refine ⟨?_,K2.out.alloc K2.out.size _⟩
 simp

theorem ofN_zero (n : Nat) : ofN n 0 = List.replicate n false := by
 induction n with
 | zero => rfl
 | succ n ih => rw [ofN,ih,List.replicate_succ]; simp
theorem ofN_un (z : Nat) : ofN (z + 1) 1 = un z := by
 rw [ofN_split z 1 1,show (1 : Nat) / 2 ^ 1 = 0 from rfl,ofN_zero]; rfl
theorem un_more (z : Nat) (h : 63 ≤ z) : un z = ofN 63 0 ++ un (z - 63) := by
 rw [ofN_zero,un,un,<- List.append_assoc,List.replicate_append_replicate,Nat.add_sub_cancel' h]

def WP (x : Nat → Nat) (d t : Nat) (w : World) (wb : Nat) (l : Bits) (ks : List (Nat × Obj)) (W : World) : Prop :=
 ∃ x', Fr x x' (fun e => e = d \/ e = t) w W /\ WrC x' d W wb l /\ ∀ p ∈ ks,x' p.1 = t /\ W.heap[p.1]? = some p.2
theorem piece0 (a b c d : Value) (W : World) : (Instr.index 207 (.agg #[a, b, c, d]) (.int .i64 0)).run Tryz.prog W = .ok (.agg #[a, b]) W := by kernel_rfl
theorem piece1 (a b c d : Value) (W : World) : (Instr.index 207 (.agg #[a, b, c, d]) (.int .i64 1)).run Tryz.prog W = .ok (.agg #[c, d]) W := by kernel_rfl
theorem WP.start {x : Nat → Nat} {d t : Nat} {w : World} {wb : Nat} {l : Bits} (h : WrC x d w wb l) : WP x d t w wb l [] w := ⟨x, Fr.refl _ _ _, h, fun p hp => by cases hp⟩
theorem WP.row {x : Nat → Nat} {d t : Nat} {w W : World} {wb : Nat} {l : Bits} {ks : List (Nat × Obj)} (h : WP x d t w wb l ks W) {b : Nat} {o : Obj} (hm : (b, o) ∈ ks) : W.heap[b]? = some o := by
 obtain ⟨x', _,_,hk⟩ := h
 exact (hk _ hm).2
theorem WP.next {x : Nat → Nat} {d t : Nat} {w W W' : World} {wb : Nat} {l : Bits} {ks : List (Nat × Obj)} (h : WP x d t w wb l ks W) (hdt : d ≠ t) (k : Below W.heap.size W W') : WP x d t w wb l ks W' := by
 obtain ⟨x', hf,hw,hk⟩ := h
 have f2 : Fr x' (paint x' W.heap.size t) (fun e => e = t) W W' := Fr.of_below k rfl
 refine ⟨_,hf.trans (f2.mono (fun c hc => .inr hc)),hw.frame f2 hdt,fun p hp => ?_⟩
 obtain ⟨h1,h2⟩ := hk p hp
 exact ⟨(paint_old (lt_of_block h2)).trans h1,(k.block _ (lt_of_block h2)).trans h2⟩
theorem WP.keep {x : Nat → Nat} {d t : Nat} {w W : World} {wb : Nat} {l : Bits} {ks : List (Nat × Obj)} (h : WP x d t w wb l ks W) (hdt : d ≠ t) (row : Array Value) (T : TypeId) : WP x d t w wb l ((W.heap.size, .cells row T (0, 0)) :: ks) (W.alloc (.cells row T)) := by
 obtain ⟨x', hf,hw,hk⟩ := h
 have k : Below W.heap.size W (W.alloc (.cells row T)) := (Below.refl _ _).alloc (Nat.le_refl _) _
 have f2 : Fr x' (paint x' W.heap.size t) (fun e => e = t) W (W.alloc (.cells row T)) := Fr.of_below k rfl
 refine ⟨_,hf.trans (f2.mono (fun c hc => .inr hc)),hw.frame f2 hdt,fun p hp => ?_⟩
 rcases List.mem_cons.1 hp with rfl | hp
 ·exact ⟨paint_new (Nat.le_refl _),heap_alloc_new W _⟩
 ·obtain ⟨h1,h2⟩ := hk p hp
  exact ⟨(paint_old (lt_of_block h2)).trans h1,(k.block _ (lt_of_block h2)).trans h2⟩
theorem WP.less {x : Nat → Nat} {d t : Nat} {w W : World} {wb : Nat} {l : Bits} {p : Nat × Obj} {ks : List (Nat × Obj)} (h : WP x d t w wb l (p :: ks) W) : WP x d t w wb l ks W := by
 obtain ⟨x', hf,hw,hk⟩ := h
 exact ⟨x', hf,hw,fun q hq => hk q (List.mem_cons_of_mem _ hq)⟩
theorem WP.put {x : Nat → Nat} {d t : Nat} {w W : World} {wb : Nat} {l : Bits} {ks : List (Nat × Obj)} (h : WP x d t w wb l ks W) (hdt : d ≠ t) (v n : Nat) (hv : v < 2 ^ n) (hn : n ≤ 64) (hl : l.length + n ≤ 134217728) :
  Calls Tryz.prog 125 #[.pointer (some ⟨wb,0,none⟩),.int .u64 (v : Int),.int .i64 (n : Int)] W fun e w' => e = .returned (.int .i64 0) /\ WP x d t w wb (l ++ ofN n v) ks w' := by
 obtain ⟨x', hf,hw,hk⟩ := h
 refine (Put_ok x' d W wb l v n hv hn hl hw).mono ?_
 rintro e w' ⟨rfl,x2,f2,h2⟩
 refine ⟨rfl,x2,hf.trans (f2.mono (fun c hc => .inl hc)),h2,fun p hp => ?_⟩
 obtain ⟨h1,h3⟩ := hk p hp
 exact ⟨(f2.col _ (lt_of_block h3)).trans h1,(f2.old _ (lt_of_block h3) (by show ¬ x' p.1 = d; rw [h1]; exact fun e => hdt e.symm)).trans h3⟩
theorem WP.len {x : Nat → Nat} {d t : Nat} {w W : World} {wb : Nat} {l : Bits} {ks : List (Nat × Obj)} (h : WP x d t w wb l ks W) :
  Calls Tryz.prog 61 #[.pointer (some ⟨wb,0,none⟩)] W fun e w' => e = .returned (.int .i64 (l.length : Int)) /\ W = w' := by
 obtain ⟨x', _,hw,_⟩ := h
 exact len_any x' d W wb l hw

set_option maxRecDepth 100000 in
set_option maxHeartbeats 3200000 in
theorem cput_any (x : Nat → Nat) (d t : Nat) (hdt : d ≠ t) (c : Cd) (hc : c.ok) (v : Nat) (hv : v ≤ c.most) (w : World) (wb : Nat) (l : Bits) (hl : l.length + (cb c v).length ≤ 134217728) (h : WrC x d w wb l) :
  Calls Tryz.prog 96 #[.pointer (some ⟨wb,0,none⟩),cdV c,.int .u64 (v : Int)] w fun e w' => e = .returned (.int .i64 0) /\ ∃ x', Fr x x' (fun e => e = d \/ e = t) w w' /\ WrC x' d w' wb (l ++ cb c v) := by
 have CL := Lib.hid (fun W => clen_any c hc v hv W)
 have SP := Lib.hid (fun W => split_any c hc v hv W)
 obtain ⟨q1,q2,q3⟩ := pcs_lt c hc v hv
 have QL := Lib.hid (pcs_len c v)
 have QB := Lib.hid (cb_pcs c v)
 obtain ⟨kd,kk,hcd⟩ := cdV_shape c
 rw [hcd] at CL SP ⊢
 unfold splV at SP
 obtain ⟨z,pv,pn,hq⟩ : ∃ z pv pn,pcs c v = (z,(pv,pn)) := ⟨_,_,_,rfl⟩
 rw [hq] at SP QL QB q1 q2 q3
 dsimp only at SP QL QB q1 q2 q3
 have HQ1 := Lib.hid q1
 rw [QB.out] at hl ⊢
 rw [<- QL.out] at CL
 have hl2 : l.length + (z + 1 + pn) <= 134217728 := by rw [List.length_append,un_length,ofN_length] at hl; exact hl
 obtain ⟨ll,hll⟩ : ∃ k,l.length = k := ⟨_,rfl⟩
 have H0 := Lib.hid (WP.start (t := t) h)
 have HLL := Lib.hid hll
 rw [hll] at hl2
 have i3 : ¬ (134217728 : Int) - (ll : Int) < ((z + 1 + pn : Nat) : Int) := by omega
 have i3' : ¬ (134217728 : Int) - (ll : Int) < (z : Int) + 1 + (pn : Int) := by omega
 have hw : IntKind.i64.wrap ((134217728 : Int) - (ll : Int)) = 134217728 - (ll : Int) := IntWalk.i64_in _ (by omega)
 have HDT := Lib.hid hdt
 clear hq hcd hl hll h q1 hv hdt
 go_enter Tryz.func96,Tryz.ntmps96
 go_upto_region 3 with fail
 have H1 := Lib.hid (H0.out.keep HDT.out #[.int .u8 kd,.int .u64 kk] 101)
 obtain ⟨sz,hsz⟩ : ∃ k,w.heap.size = k := ⟨_,rfl⟩
 rw [hsz] at H1 ⊢
 generalize World.alloc w _ = W1 at H1 ⊢
 have c0 : W1.cell? ⟨sz,0,none⟩ = some (.int .u8 kd) := by rw [cell_of_row _ _ _ _ _ _ (H1.out.row (List.mem_cons_self ..))]; rfl
 have c1 : W1.cell? ⟨sz,1,none⟩ = some (.int .u64 kk) := by rw [cell_of_row _ _ _ _ _ _ (H1.out.row (List.mem_cons_self ..))]; rfl
 clear H0
 go_wp2_with fail
 refine (CL.out _).mono ?_
 rintro e w1 ⟨rfl,k1⟩
 have H2 := Lib.hid (H1.out.next HDT.out k1)
 clear c0 c1 k1 H1
 have c0 : w1.cell? ⟨sz,0,none⟩ = some (.int .u8 kd) := by rw [cell_of_row _ _ _ _ _ _ (H2.out.row (List.mem_cons_self ..))]; rfl
 have c1 : w1.cell? ⟨sz,1,none⟩ = some (.int .u64 kk) := by rw [cell_of_row _ _ _ _ _ _ (H2.out.row (List.mem_cons_self ..))]; rfl
 go_wp2_with fail
 refine (WP.len H2.out).mono ?_
 rintro e w2 ⟨rfl,rfl⟩
 rw [HLL.out]
 go_wp2_with fail
 refine (SP.out _).mono ?_
 rintro e w2 ⟨rfl,k2⟩
 have H3 := Lib.hid (H2.out.next HDT.out k2)
 clear c0 c1 k2 H2 CL SP
 have z63 : z < 1000000 := by omega
 clear i3 i3' hw
 go_upto_region 9 with fail
 have H4 := Lib.hid (H3.out.keep HDT.out #[.int .u64 (pv : Int),.int .i64 (pn : Int),.int .u64 0,.int .i64 0] 207)
 obtain ⟨ab,hab⟩ : ∃ k,w2.heap.size = k := ⟨_,rfl⟩
 rw [hab] at H4 ⊢
 generalize World.alloc w2 _ = W4 at H4 ⊢
 obtain ⟨ks,hks⟩ : ∃ ks,ks = [(ab,Obj.cells #[.int .u64 (pv : Int),.int .i64 (pn : Int),.int .u64 0,.int .i64 0] 207 (0,0)),(sz,Obj.cells #[.int .u8 kd,.int .u64 kk] 101 (0,0))] := ⟨_,rfl⟩
 have HKS : Hid ((ab,Obj.cells #[.int .u64 (pv : Int),.int .i64 (pn : Int),.int .u64 0,.int .i64 0] 207 (0,0)) ∈ ks) := Lib.hid (by rw [hks]; exact List.mem_cons_self ..)
 rw [<- hks] at H4
 clear H3 hab hks hsz
 go_wp2_with fail
 go_loopw [9] (fun vz wr => ∃ z' : Nat,vz = .int .i64 (z' : Int) /\ z' <= z /\ ∃ l', l'.length + z' = ll + z /\ l' ++ un z' = l ++ un z /\ WP x d t w wb l' ks wr) (fun vz _ => (intOf vz).toNat)
 case atStart => exact ⟨z,rfl,Nat.le_refl _,l,by rw [HLL.out],rfl,H4.out⟩
 case round =>
  obtain ⟨z', rfl,hz,l', hl1,hl3,hW⟩ := hrel
  by_cases h63 : 63 < z'
  ·have PU := Lib.hid (hW.put HDT.out 0 63 (by decide) (by decide) (by omega))
   have LE : Hid ((l' ++ ofN 63 0) ++ un (z' - 63) = l ++ un z) := Lib.hid (by rw [List.append_assoc,<- un_more z' (by omega),hl3])
   have LN : Hid ((l' ++ ofN 63 0).length + (z' - 63) = ll + z) := Lib.hid (by rw [List.length_append,ofN_length]; omega)
   have w1 : IntKind.i64.wrap ((z' : Int) - 63) = ((z' - 63 : Nat) : Int) := by rw [IntWalk.i64_in _ (by omega)]; omega
   clear hW hl3 hl1
   go_wp2_with fail
   refine PU.out.mono ?_
   rintro e w5 ⟨rfl,h5⟩
   go_wp2_with fail
   go_roundw
   case rel => exact ⟨z' - 63,by go_num,by omega,_,LN.out,LE.out,h5⟩
   case measure => simp [intOf]; omega
  ·have PU := Lib.hid (hW.put HDT.out 1 (z' + 1) (Nat.one_lt_two_pow (by omega)) (by omega) (by omega))
   rw [ofN_un,hl3] at PU
   have w1 : IntKind.i64.wrap ((z' : Int) + 1) = ((z' + 1 : Nat) : Int) := by rw [IntWalk.i64_in _ (by omega)]; omega
   have hz0 : (0 : Int) <= (z' : Int) := by omega
   clear hW hl3 hl1
   go_wp2_with fail
   refine PU.out.mono ?_
   rintro e w5 ⟨rfl,h5⟩
   have H5 := Lib.hid h5
   have a0 : w5.cell? ⟨ab,0,none⟩ = some (.int .u64 (pv : Int)) := by rw [cell_of_row _ _ _ _ _ _ (h5.row HKS.out)]; rfl
   have a1 : w5.cell? ⟨ab,1,none⟩ = some (.int .i64 (pn : Int)) := by rw [cell_of_row _ _ _ _ _ _ (h5.row HKS.out)]; rfl
   have a2 : w5.cell? ⟨ab,2,none⟩ = some (.int .u64 0) := by rw [cell_of_row _ _ _ _ _ _ (h5.row HKS.out)]; rfl
   have a3 : w5.cell? ⟨ab,3,none⟩ = some (.int .i64 0) := by rw [cell_of_row _ _ _ _ _ _ (h5.row HKS.out)]; rfl
   clear h5 PU
   go_wp2_with fail
   clear a0 a1 a2 a3
   have hlu : (l ++ un z).length + pn + 0 <= 134217728 := by rw [List.length_append,un_length,HLL.out]; omega
   have hlu2 : (l ++ (un z ++ ofN pn pv)).length + 0 <= 134217728 := by rw [List.length_append,List.length_append,un_length,ofN_length,HLL.out]; omega
   go_loopw [50] (fun vi wr => ∃ l2,WP x d t w wb l2 ks wr /\ ((vi = .int .i64 0 /\ l2 = l ++ un z) \/ (vi = .int .i64 1 /\ l2 = l ++ (un z ++ ofN pn pv)) \/ (vi = .int .i64 2 /\ l2 = l ++ (un z ++ ofN pn pv)))) (fun vi _ => 2 - (intOf vi).toNat)
   case atStart => exact ⟨_,H5.out,.inl ⟨rfl,rfl⟩⟩
   case round =>
    rename_i wr2
    obtain ⟨l2,hW,⟨rfl,rfl⟩ | ⟨rfl,rfl⟩ | ⟨rfl,rfl⟩⟩ := hrel
    ·have K6 := Lib.hid (hW.keep HDT.out #[.int .u64 (pv : Int),.int .i64 (pn : Int)] 206)
     have PU := Lib.hid (K6.out.put HDT.out pv pn HQ1.out (by omega) (by omega))
     rw [List.append_assoc] at PU
     clear hW
     have ix := piece0 (.int .u64 (pv : Int)) (.int .i64 (pn : Int)) (.int .u64 0) (.int .i64 0)
     go_wp2_with fail
     refine PU.out.mono ?_
     rintro e w7 ⟨rfl,h7⟩
     have H7 := Lib.hid (show WP x d t w wb (l ++ (un z ++ ofN pn pv)) ks w7 from h7.less)
     clear h7
     go_wp2_with fail
     go_roundw
     case rel => exact ⟨_,H7.out,.inr (.inl ⟨by go_num,rfl⟩)⟩
     case measure => simp [intOf]
    ·have K6 := Lib.hid (hW.keep HDT.out #[.int .u64 0,.int .i64 0] 206)
     have PU := Lib.hid (K6.out.put HDT.out 0 0 (by decide) (by decide) (by omega))
     rw [show (l ++ (un z ++ ofN pn pv)) ++ ofN 0 0 = l ++ (un z ++ ofN pn pv) from List.append_nil _] at PU
     clear hW
     have ix := piece1 (.int .u64 (pv : Int)) (.int .i64 (pn : Int)) (.int .u64 0) (.int .i64 0)
     go_wp2_with fail
     refine PU.out.mono ?_
     rintro e w7 ⟨rfl,h7⟩
     have H7 := Lib.hid (show WP x d t w wb (l ++ (un z ++ ofN pn pv)) ks w7 from h7.less)
     clear h7
     go_wp2_with fail
     go_roundw
     case rel => exact ⟨_,H7.out,.inr (.inr ⟨by go_num,rfl⟩)⟩
     case measure => simp [intOf]
    ·have HW := Lib.hid hW
     clear hW
     go_wp2_with fail
     go_ret
     obtain ⟨x', f', w', _⟩ := HW.out
     exact ⟨rfl,x', f', w'⟩
def LV (w : World) (a : Option Addr) (l : List Nat) : Prop :=
 l.length <= 4611686018427387903 /\ ∀ i (h : i < l.length),∃ g o,a = some ⟨g,o,none⟩ /\ g < w.heap.size /\ w.cell? ⟨g,o + i,none⟩ = some (.int .u32 (l[i] : Int)) /\ l[i] < 4294967296
theorem LV.below {w w' : World} {a : Option Addr} {l : List Nat} (h : LV w a l) (k : Below w.heap.size w w') : LV w' a l :=
 ⟨h.1,fun i hi => by
  obtain ⟨g,o,h1,h2,h3,h4⟩ := h.2 i hi
  exact ⟨g,o,h1,Nat.lt_of_lt_of_le h2 k.size,(k.cell (p := ⟨g,o + i,none⟩) h2).trans h3,h4⟩⟩
theorem ris_iff (l : List Nat) : Ris l ↔ ∀ i (h : i < l.length), l[i] < 65536 ∧ ∀ h0 : 0 < i, l[i - 1] < l[i] := by
 constructor
 ·intro h i hi
  exact ⟨h.2 _ (List.getElem_mem hi),fun h0 => List.pairwise_iff_getElem.1 h.1 (i - 1) i (by omega) hi (by omega)⟩
 ·intro h
  refine ⟨List.pairwise_iff_getElem.2 fun i j hi hj hij => ?_,fun v hv => ?_⟩
  ·obtain ⟨k,hk⟩ : ∃ k,j = i + 1 + k := ⟨j - i - 1,by omega⟩
   clear hij
   induction k generalizing j with
   | zero =>
    subst hk
    exact (h (i + 1) (by omega)).2 (by omega)
   | succ k ih =>
    have h1 := ih (i + 1 + k) (by omega) rfl
    have h2 := (h j hj).2 (by omega)
    have e : j - 1 = i + 1 + k := by omega
    simp only [e] at h2
    omega
  ·obtain ⟨i,hi,rfl⟩ := List.mem_iff_getElem.1 hv
   exact (h i hi).1

def parV (win itv zet : Int) : Value := .agg #[.int .i64 win, .int .i64 itv, .int .i64 zet]
def ParOk (win itv zet : Int) : Prop := 0 ≤ win ∧ win ≤ 16 ∧ (itv = 0 ∨ 2 ≤ itv ∧ itv ≤ 64) ∧ 1 ≤ zet ∧ zet ≤ 16
instance (win itv zet : Int) : Decidable (ParOk win itv zet) := by unfold ParOk; exact inferInstance
def YesNo (P : Prop) (w : World) (e : Ending) (w' : World) : Prop := ∃ b : Bool, e = .returned (.bool b) ∧ (b = true ↔ P) ∧ w = w'
theorem vertex_any (z : Int) (w : World) : Calls Tryz.prog 49 #[.int .i64 z] w fun e w' => e = .returned (.bool (decide (0 ≤ z ∧ z < 65536))) ∧ w = w' := by
 by_cases h0 : 0 <= z
 ·have e : decide (0 <= z /\ z < 65536) = decide (z < 65536) := decide_eq_decide.2 ⟨fun h => h.2,fun h => ⟨h0,h⟩⟩
  rw [e]
  go_enter Tryz.func49,Tryz.ntmps49
  go_wp2_with fail
  go_ret
  exact ⟨rfl,rfl⟩
 ·have e : decide (0 <= z /\ z < 65536) = false := decide_eq_false (fun h => h0 h.1)
  rw [e]
  go_enter Tryz.func49,Tryz.ntmps49
  go_wp2_with fail
  go_ret
  exact ⟨rfl,rfl⟩
set_option maxRecDepth 100000 in
set_option maxHeartbeats 1600000 in
theorem pcheck_any (win itv zet : Int) (w : World) : Calls Tryz.prog 45 #[parV win itv zet] w fun e w' => e = .returned (.int .i64 (if ParOk win itv zet then 0 else 1)) ∧ Below w.heap.size w w' := by
 unfold parV
 obtain ⟨k,hk⟩ : ∃ k : Int,(if ParOk win itv zet then 0 else 1) = k := ⟨_,rfl⟩
 rw [hk]
 have HK := Lib.hid hk
 clear hk
 have yes : ParOk win itv zet -> k = 0 := fun h => by have := HK.out; rw [if_pos h] at this; exact this.symm
 have no : ¬ ParOk win itv zet -> k = 1 := fun h => by have := HK.out; rw [if_neg h] at this; exact this.symm
 have YES := Lib.hid yes
 have NO := Lib.hid no
 clear yes no HK
 by_cases h1 : win < 0
 ·obtain rfl := NO.out (fun h => by have := h.1; omega)
  clear YES NO
  go_enter Tryz.func45,Tryz.ntmps45
  go_wp2_with fail
  go_ret
  exact ⟨rfl,(by repeat (first | exact Below.refl _ _ | refine below_drewN ?_ _ | refine Below.setCell ?_ (by simp; try omega) _ | refine Below.alloc ?_ (by simp; try omega) _))⟩
 by_cases h2 : 16 < win
 ·obtain rfl := NO.out (fun h => by have := h.2.1; omega)
  clear YES NO
  go_enter Tryz.func45,Tryz.ntmps45
  go_wp2_with fail
  go_ret
  exact ⟨rfl,(by repeat (first | exact Below.refl _ _ | refine below_drewN ?_ _ | refine Below.setCell ?_ (by simp; try omega) _ | refine Below.alloc ?_ (by simp; try omega) _))⟩
 by_cases h3 : zet < 1
 ·obtain rfl := NO.out (fun h => by have := h.2.2.2.1; omega)
  clear YES NO
  go_enter Tryz.func45,Tryz.ntmps45
  go_wp2_with fail
  go_ret
  exact ⟨rfl,(by repeat (first | exact Below.refl _ _ | refine below_drewN ?_ _ | refine Below.setCell ?_ (by simp; try omega) _ | refine Below.alloc ?_ (by simp; try omega) _))⟩
 by_cases h4 : 16 < zet
 ·obtain rfl := NO.out (fun h => by have := h.2.2.2.2; omega)
  clear YES NO
  go_enter Tryz.func45,Tryz.ntmps45
  go_wp2_with fail
  go_ret
  exact ⟨rfl,(by repeat (first | exact Below.refl _ _ | refine below_drewN ?_ _ | refine Below.setCell ?_ (by simp; try omega) _ | refine Below.alloc ?_ (by simp; try omega) _))⟩
 by_cases h5 : itv = 0
 ·obtain rfl := YES.out ⟨by omega,by omega,.inl h5,by omega,by omega⟩
  have h5' : (itv != 0) = false := by rw [h5]; rfl
  subst h5
  clear YES NO
  go_enter Tryz.func45,Tryz.ntmps45
  go_wp2_with fail
  go_ret
  exact ⟨rfl,(by repeat (first | exact Below.refl _ _ | refine below_drewN ?_ _ | refine Below.setCell ?_ (by simp; try omega) _ | refine Below.alloc ?_ (by simp; try omega) _))⟩
 have h5' : (itv != 0) = true := by simpa using h5
 by_cases h6 : itv < 2
 ·obtain rfl := NO.out (fun h => by have := h.2.2.1; omega)
  clear YES NO
  go_enter Tryz.func45,Tryz.ntmps45
  go_wp2_with fail
  go_ret
  exact ⟨rfl,(by repeat (first | exact Below.refl _ _ | refine below_drewN ?_ _ | refine Below.setCell ?_ (by simp; try omega) _ | refine Below.alloc ?_ (by simp; try omega) _))⟩
 by_cases h7 : 64 < itv
 ·obtain rfl := NO.out (fun h => by have := h.2.2.1; omega)
  clear YES NO
  go_enter Tryz.func45,Tryz.ntmps45
  go_wp2_with fail
  go_ret
  exact ⟨rfl,(by repeat (first | exact Below.refl _ _ | refine below_drewN ?_ _ | refine Below.setCell ?_ (by simp; try omega) _ | refine Below.alloc ?_ (by simp; try omega) _))⟩
 obtain rfl := YES.out ⟨by omega,by omega,.inr ⟨by omega,by omega⟩,by omega,by omega⟩
 clear YES NO
 go_enter Tryz.func45,Tryz.ntmps45
 go_wp2_with fail
 go_ret
 exact ⟨rfl,(by repeat (first | exact Below.refl _ _ | refine below_drewN ?_ _ | refine Below.setCell ?_ (by simp; try omega) _ | refine Below.alloc ?_ (by simp; try omega) _))⟩

set_option maxRecDepth 100000 in
set_option maxHeartbeats 1600000 in
theorem succ_any (w : World) (a : Option Addr) (l : List Nat) (cap : Nat) (h : LV w a l) : Calls Tryz.prog 50 #[.slice a l.length cap] w (YesNo (Ris l) w) := by
 have H := Lib.hid h.2
 have hz := h.1
 have R := Lib.hid (ris_iff l)
 clear h
 obtain ⟨n,hn⟩ : ∃ n,l.length = n := ⟨_,rfl⟩
 have HN := Lib.hid hn
 rw [hn] at hz ⊢
 clear hn
 go_enter Tryz.func50,Tryz.ntmps50
 go_wp2_with fail
 go_loopw [7] (fun vi wr => ∃ i : Nat,vi = .int .i64 (i : Int) /\ i <= n /\ wr = w /\ ∀ j (hj : j < l.length),j < i -> l[j] < 65536 /\ ∀ h0 : 0 < j,l[j - 1] < l[j]) (fun vi _ => n - (intOf vi).toNat)
 case atStart => exact ⟨0,rfl,Nat.zero_le _,rfl,fun j _ h => by omega⟩
 case round =>
  obtain ⟨i,rfl,hi,rfl,hj⟩ := hrel
  have HJ := Lib.hid hj
  clear hj
  by_cases hlt : i < n
  ·obtain ⟨g,o,rfl,hg,hc,hb⟩ := H.out i (by rw [HN.out]; exact hlt)
   obtain ⟨v,hv⟩ : ∃ v,l[i]'(by rw [HN.out]; exact hlt) = v := ⟨_,rfl⟩
   rw [hv] at hc hb
   have HV := Lib.hid hv
   have i1 : (i : Int) < (n : Int) := by omega
   by_cases h65 : v < 65536
   ·have j1 : decide ((65536 : Int) <= (v : Int)) = false := decide_eq_false (by omega)
    by_cases h0 : 0 < i
    ·obtain ⟨g', o', he,hg', hc', hb'⟩ := H.out (i - 1) (by rw [HN.out]; omega)
     obtain ⟨rfl,rfl⟩ : g' = g /\ o' = o := by injection he with he; injection he with e1 e2; exact ⟨e1.symm,e2.symm⟩
     obtain ⟨u,hu⟩ : ∃ u,l[i - 1]'(by rw [HN.out]; omega) = u := ⟨_,rfl⟩
     rw [hu] at hc' hb'
     have HU := Lib.hid hu
     have j2 : decide ((0 : Int) < (i : Int)) = true := decide_eq_true (by omega)
     have j3 : IntKind.i64.wrap ((i : Int) - 1) = ((i - 1 : Nat) : Int) := by rw [IntWalk.i64_in _ (by omega)]; omega
     have j4 : ((i - 1 : Nat) : Int) < (n : Int) := by omega
     have j5 : (0 : Int) <= ((i - 1 : Nat) : Int) := Int.natCast_nonneg _
     clear hv hu he
     by_cases huv : u < v
     ·have j6 : decide ((v : Int) <= (u : Int)) = false := decide_eq_false (by omega)
      go_wp2_with fail
      go_roundw
      case rel =>
       refine ⟨i + 1,by go_num,by omega,by trivial,fun j hj hji => ?_⟩
       by_cases hji2 : j = i
       ·subst hji2
        have e1 := HV.out
        have e2 := HU.out
        exact ⟨by omega,fun _ => by omega⟩
       ·exact HJ.out j hj (by omega)
      case measure => simp [intOf]; omega
     ·have j6 : decide ((v : Int) <= (u : Int)) = true := decide_eq_true (by omega)
      go_wp2_with fail
      go_ret
      refine ⟨false,rfl,?_,rfl⟩
      rw [R.out]
      refine ⟨fun h => (by cases h),fun h => ?_⟩
      have h1 := (h i (by rw [HN.out]; exact hlt)).2 h0
      have e1 := HV.out
      have e2 := HU.out
      omega
    ·have j2 : decide ((0 : Int) < (i : Int)) = false := decide_eq_false (by omega)
     clear hv
     go_wp2_with fail
     go_roundw
     case rel =>
      refine ⟨i + 1,by go_num,by omega,by trivial,fun j hj hji => ?_⟩
      by_cases hji2 : j = i
      ·subst hji2
       have e1 := HV.out
       exact ⟨by omega,fun h => absurd h h0⟩
      ·exact HJ.out j hj (by omega)
     case measure => simp [intOf]; omega
   ·have j1 : decide ((65536 : Int) <= (v : Int)) = true := decide_eq_true (by omega)
    clear hv
    go_wp2_with fail
    go_ret
    refine ⟨false,rfl,?_,rfl⟩
    rw [R.out]
    refine ⟨fun h => (by cases h),fun h => ?_⟩
    have h1 := (h i (by rw [HN.out]; exact hlt)).1
    have e1 := HV.out
    omega
  ·have i1 : ¬ (i : Int) < (n : Int) := by omega
   go_wp2_with fail
   go_ret
   refine ⟨true,rfl,?_,rfl⟩
   rw [R.out]
   exact ⟨fun _ j hj => HJ.out j hj (by rw [HN.out] at hj; omega),fun _ => rfl⟩
def MayI (win itv zet x : Int) (succ ref : List Nat) (r : Int) : Prop := ParOk win itv zet ∧ (0 ≤ x ∧ x < 65536) ∧ Ris succ ∧ Ris ref ∧ 0 ≤ r ∧ r ≤ win ∧ (0 < r ∨ ref = [])
def YesNoB (P : Prop) (w : World) (e : Ending) (w' : World) : Prop := ∃ b : Bool, e = .returned (.bool b) ∧ (b = true ↔ P) ∧ Below w.heap.size w w'
theorem YesNoB.no {P : Prop} {w w' : World} (h : ¬ P) (k : Below w.heap.size w w') : YesNoB P w (.returned (.bool false)) w' := ⟨false, rfl, ⟨(fun h => by cases h), fun h' => absurd h' h⟩, k⟩
theorem YesNoB.yes {P : Prop} {w w' : World} (h : P) (k : Below w.heap.size w w') : YesNoB P w (.returned (.bool true)) w' := ⟨true, rfl, ⟨fun _ => h, fun _ => rfl⟩, k⟩
set_option maxRecDepth 100000 in
set_option maxHeartbeats 3200000 in
theorem lmay_any (win itv zet x : Int) (w : World) (a : Option Addr) (l : List Nat) (cap : Nat) (h : LV w a l) (b : Option Addr) (m : List Nat) (capb : Nat) (hb : LV w b m) (r : Int) :
  Calls Tryz.prog 97 #[parV win itv zet,.int .i64 x,.slice a l.length cap,.slice b m.length capb,.int .i64 r] w (YesNoB (MayI win itv zet x l m r) w) := by
 have CK := Lib.hid (fun W => pcheck_any win itv zet W)
 have VX := Lib.hid (fun W => vertex_any x W)
 have S1 := Lib.hid (fun W (k : Below w.heap.size w W) => succ_any W a l cap (h.below k))
 have S2 := Lib.hid (fun W (k : Below w.heap.size w W) => succ_any W b m capb (hb.below k))
 obtain ⟨P,hP⟩ : ∃ P,MayI win itv zet x l m r = P := ⟨_,rfl⟩
 have HP := Lib.hid hP
 rw [hP]
 have hm0 : (m = [] ↔ m.length = 0) := List.length_eq_zero_iff.symm
 have HM0 := Lib.hid hm0
 unfold MayI at HP
 clear h hb hP hm0
 by_cases hp : ParOk win itv zet
 ·rw [if_pos hp] at CK
  by_cases hx : 0 <= x /\ x < 65536
  ·rw [decide_eq_true hx] at VX
   unfold parV at CK ⊢
   go_enter Tryz.func97,Tryz.ntmps97
   go_wp2_with fail
   with_reducible refine (CK.out _).mono ?_
   rintro e w1 ⟨rfl,k1⟩
   have r1 := box_keeps k1
   have c0 : w1.cell? ⟨w.heap.size,0,none⟩ = some (.int .i64 win) := by rw [cell_of_row _ _ _ _ _ _ r1]; rfl
   have K1 := Lib.hid (below_alloc k1)
   clear r1 k1
   go_wp2_with fail
   with_reducible refine (VX.out _).mono ?_
   rintro e w2 ⟨rfl,rfl⟩
   go_wp2_with fail
   with_reducible refine (S1.out _ K1.out).mono ?_
   rintro e w2 ⟨b1,rfl,hb1,rfl⟩
   have HB1 := Lib.hid hb1
   clear hb1
   cases b1
   ·have NP : Hid (¬ P) := Lib.hid (by rw [<- HP.out]; intro h; have := HB1.out.2 h.2.2.1; cases this)
    go_wp2_with fail
    go_ret
    exact YesNoB.no NP.out K1.out
   ·go_wp2_with fail
    with_reducible refine (S2.out _ K1.out).mono ?_
    rintro e w2 ⟨b2,rfl,hb2,rfl⟩
    have HB2 := Lib.hid hb2
    clear hb2
    cases b2
    ·have NP : Hid (¬ P) := Lib.hid (by rw [<- HP.out]; intro h; have := HB2.out.2 h.2.2.2.1; cases this)
     go_wp2_with fail
     go_ret
     exact YesNoB.no NP.out K1.out
    ·by_cases hr0 : 0 <= r
     ·by_cases hrw : r <= win
      ·by_cases hr1 : 0 < r
       ·have NP : Hid (P) := Lib.hid (by rw [<- HP.out]; exact ⟨hp,hx,HB1.out.1 (by trivial),HB2.out.1 (by trivial),hr0,hrw,.inl hr1⟩)
        go_wp2_with fail
        go_ret
        exact YesNoB.yes NP.out K1.out
       ·have hd : decide (0 < r) = false := decide_eq_false hr1
        by_cases hm : m.length = 0
        ·have hm2 : ((m.length : Int) == 0) = true := by rw [hm]; rfl
         have NP : Hid (P) := Lib.hid (by rw [<- HP.out]; exact ⟨hp,hx,HB1.out.1 (by trivial),HB2.out.1 (by trivial),hr0,hrw,.inr (HM0.out.2 hm)⟩)
         go_wp2_with fail
         go_ret
         exact YesNoB.yes NP.out K1.out
        ·have hm2 : ((m.length : Int) == 0) = false := beq_eq_false_iff_ne.2 (by omega)
         have NP : Hid (¬ P) := Lib.hid (by rw [<- HP.out]; intro h; rcases h.2.2.2.2.2.2 with h1 | h1; exact hr1 h1; exact hm (HM0.out.1 h1))
         go_wp2_with fail
         go_ret
         exact YesNoB.no NP.out K1.out
      ·have NP : Hid (¬ P) := Lib.hid (by rw [<- HP.out]; intro h; exact hrw h.2.2.2.2.2.1)
       go_wp2_with fail
       go_ret
       exact YesNoB.no NP.out K1.out
     ·have NP : Hid (¬ P) := Lib.hid (by rw [<- HP.out]; intro h; exact hr0 h.2.2.2.2.1)
      go_wp2_with fail
      go_ret
      exact YesNoB.no NP.out K1.out
  ·rw [decide_eq_false hx] at VX
   unfold parV at CK ⊢
   go_enter Tryz.func97,Tryz.ntmps97
   go_wp2_with fail
   with_reducible refine (CK.out _).mono ?_
   rintro e w1 ⟨rfl,k1⟩
   have K1 := Lib.hid (below_alloc k1)
   clear k1
   go_wp2_with fail
   with_reducible refine (VX.out _).mono ?_
   rintro e w2 ⟨rfl,rfl⟩
   have NP : Hid (¬ P) := Lib.hid (by rw [<- HP.out]; intro h; exact hx h.2.1)
   go_wp2_with fail
   go_ret
   exact YesNoB.no NP.out K1.out
 ·rw [if_neg hp] at CK
  unfold parV at CK ⊢
  go_enter Tryz.func97,Tryz.ntmps97
  go_wp2_with fail
  with_reducible refine (CK.out _).mono ?_
  rintro e w1 ⟨rfl,k1⟩
  have K1 := Lib.hid (below_alloc k1)
  clear k1
  have NP : Hid (¬ P) := Lib.hid (by rw [<- HP.out]; intro h; exact hp h.1)
  go_wp2_with fail
  go_ret
  exact YesNoB.no NP.out K1.out
def ReadP (x : Nat → Nat) (d t : Nat) (w : World) (rb qb : Nat) (s : ByteArray) (a : Nat) (bad : Bool) (ks : List (Nat × Obj)) (o : Option (Nat × Nat)) (e : Ending) (w' : World) : Prop :=
 ∃ v a' : Nat,∃ bad' : Bool,e = .returned (.int .u64 (v : Int)) /\ v < 18446744073709551616 /\ RQ x d t w rb qb s a' bad' ks w' /\ (bad = true -> bad' = true) /\ (bad = false -> match o with | some q => v = q.1 /\ a' = a + q.2 /\ bad' = false | none => bad' = true)
theorem tkP_ok {s : ByteArray} {a n : Nat} (h : a + n ≤ 8 * s.size) : tkP s a n = (num (((unpack (nats s)).drop a).take n), a + n) := if_pos h
theorem take_succ_num (B : Bits) (n : Nat) (h : n < B.length) : num (B.take (n + 1)) = 2 * num (B.take n) + num ((B.drop n).take 1) := by
 rw [List.take_add,num_append,List.length_take,List.length_drop,Nat.min_eq_left (by omega),Nat.pow_one,Nat.mul_comm]
set_option maxRecDepth 100000 in
set_option maxHeartbeats 3200000 in
theorem qshort_any (x : Nat → Nat) (d t : Nat) (hdt : d ≠ t) (w : World) (rb qb : Nat) (s : ByteArray) (a k : Nat) (hk : 1 ≤ k) (hk2 : k ≤ 9223372036854775808) (bad : Bool) (ks : List (Nat × Obj)) (W : World) (h : RQ x d t w rb qb s a bad ks W) :
  Calls Tryz.prog 103 #[.pointer (some ⟨qb,0,none⟩),.int .u64 (k : Int)] W (ReadP x d t w rb qb s a bad ks (mread k ((unpack (nats s)).drop a))) := by
 have LN := Lib.hid (fun W => Tryz.bits_Len64 ((k - 1 : Nat) : Int) W (by omega) (by omega))
 rw [Int.toNat_natCast,bitLen_clog k hk hk2] at LN
 have e1 : IntKind.u64.wrap ((k : Int) - 1) = ((k - 1 : Nat) : Int) := u64_sub k 1 hk hk2
 obtain ⟨o,ho⟩ : ∃ o,mread k ((unpack (nats s)).drop a) = o := ⟨_,rfl⟩
 have HO := Lib.hid ho
 rw [ho]
 unfold mread at HO
 rw [List.length_drop,bits_len] at HO
 have h1 := @clog_le k
 have h2 : clog k <= 63 := clog_pow (by rw [show (2 : Nat) ^ 63 = 9223372036854775808 from rfl]; exact hk2)
 have h3 : (2 : Nat) ^ clog k <= 9223372036854775808 := pow63 h2
 have hle := h.le
 obtain ⟨c,hc⟩ : ∃ c,clog k = c := ⟨_,rfl⟩
 rw [hc] at LN HO h1 h2 h3
 obtain ⟨pw,hpw⟩ : ∃ pw,2 ^ c = pw := ⟨_,rfl⟩
 rw [hpw] at HO h1 h3
 have H := Lib.hid h
 clear hc ho h
 by_cases c0 : c = 0
 ·subst c0
  have OO := HO.out
  rw [if_pos rfl] at OO
  clear h1 h2 h3 hpw HO hle
  go_enter Tryz.func103,Tryz.ntmps103
  go_wp2_with fail
  refine (LN.out _).mono ?_
  rintro e w1 ⟨rfl,rfl⟩
  go_wp2_with fail
  go_ret
  exact ⟨0,a,bad,rfl,by decide,H.out,fun h => h,fun h => by subst OO; exact ⟨rfl,rfl,h⟩⟩
 ·have hm : 2 ^ c - k < 2 ^ c := by omega
  have cc : ((c : Int) == 0) = false := beq_eq_false_iff_ne.2 (by omega)
  have f1 : min c 64 = c := Nat.min_eq_left (by omega)
  have f2 := u64_pow c pw hpw h3
  have f3 := u64_sub pw k h1 h3
  have f4 : IntKind.i64.wrap ((c : Int) - 1) = ((c - 1 : Nat) : Int) := by rw [IntWalk.i64_in _ (by omega)]; omega
  have F := Lib.hid (And.intro f1 (And.intro f2 (And.intro f3 f4)))
  obtain ⟨m,hmm⟩ : ∃ m,pw - k = m := ⟨_,rfl⟩
  rw [hmm] at F HO
  have hcz : (0 : Int) <= (c : Int) := Int.natCast_nonneg c
  obtain ⟨v1,a1,b1,ht1,T1,hv1,hb1⟩ : ∃ v1 a1 b1,tkP s a (c - 1) = (v1,a1) /\ Hid (Calls Tryz.prog 102 #[.pointer (some ⟨qb,0,none⟩),.int .i64 ((c - 1 : Nat) : Int)] W fun e w' =>
   e = .returned (.int .u64 (v1 : Int)) /\ RQ x d t w rb qb s a1 b1 ks w') /\ v1 < 4611686018427387904 /\ b1 = (bad || decide (8 * s.size < a + (c - 1))) := by
   refine ⟨(tkP s a (c - 1)).1,(tkP s a (c - 1)).2,_,rfl,Lib.hid (qtake_any x d t hdt w rb qb s a (c - 1) (by omega) bad ks W H.out),?_,rfl⟩
   unfold tkP
   split
   ·refine Nat.lt_of_lt_of_le (num_lt _) ?_
    calc 2 ^ (((unpack (nats s)).drop a).take (c - 1)).length <= 2 ^ 62 := Nat.pow_le_pow_right (by decide) (by rw [List.length_take]; omega)
     _ = 4611686018427387904 := rfl
   ·exact (by decide : (0 : Nat) < 4611686018427387904)
  have HT1 := Lib.hid ht1
  have HB1 := Lib.hid hb1
  have HLE := Lib.hid hle
  have HC0 := Lib.hid c0
  have HMW : m <= 9223372036854775808 := by omega
  clear ht1 hb1 hle c0 hm f1 f2 f3 f4 hpw h1 h2 h3
  by_cases hlt : v1 < m
  ·have hd : ¬ (m : Int) <= (v1 : Int) := by omega
   go_enter Tryz.func103,Tryz.ntmps103
   go_wp2_with fail
   refine (LN.out _).mono ?_
   rintro e w1 ⟨rfl,rfl⟩
   obtain ⟨f1,f2,f3,f4⟩ := F.out
   go_upto_region 5 with fail
   clear f1 f2 f3 
   go_wp2_with fail
   refine T1.out.mono ?_
   rintro e w2 ⟨rfl,h2⟩
   have H2 := Lib.hid h2
   clear h2
   go_wp2_with fail
   go_ret
   refine ⟨v1,a1,b1,rfl,by omega,H2.out,fun h => by rw [HB1.out,h]; rfl,fun h => ?_⟩
   have OO := HO.out
   have ht1 := HT1.out
   have hb1 := HB1.out
   have hle := HLE.out
   rw [if_neg HC0.out] at OO
   rw [h,Bool.false_or] at hb1
   by_cases hl : a + (c - 1) <= 8 * s.size
   ·rw [tkP_ok hl] at ht1
    obtain ⟨e1,e2⟩ := Prod.mk.inj ht1
    rw [if_neg (by omega),e1,if_pos hlt] at OO
    subst OO
    exact ⟨rfl,e2.symm,by rw [hb1]; exact decide_eq_false (by omega)⟩
   ·rw [if_pos (by omega)] at OO
    subst OO
    show b1 = true
    rw [hb1]; exact decide_eq_true (by omega)
  ·have hd : (m : Int) <= (v1 : Int) := by omega
   have w1 : IntKind.u64.wrap ((v1 : Int) * 2 ^ 1) = ((2 * v1 : Nat) : Int) := by rw [IntKind.wrap_u64]; omega
   have w1' : IntKind.u64.wrap ((v1 : Int) * 2) = ((2 * v1 : Nat) : Int) := by rw [IntKind.wrap_u64]; omega
   have T2 := Lib.hid (fun W h => qtake_any x d t hdt w rb qb s a1 1 (by decide) b1 ks W h)
   obtain ⟨v2,a2,ht2⟩ : ∃ v2 a2,tkP s a1 1 = (v2,a2) := ⟨_,_,rfl⟩
   have hv2 : v2 <= 1 := by
    have e : v2 = (tkP s a1 1).1 := by rw [ht2]
    rw [e]
    unfold tkP
    split
    ·have := num_lt (((unpack (nats s)).drop a1).take 1)
     have h2 : 2 ^ (((unpack (nats s)).drop a1).take 1).length <= 2 ^ 1 := Nat.pow_le_pow_right (by decide) (by rw [List.length_take]; omega)
     show num _ <= 1
     omega
    ·exact Nat.zero_le _
   rw [ht2] at T2
   dsimp only at T2
   have w2 : IntKind.u64.wrap (((2 * v1 : Nat) : Int) + (v2 : Int)) = ((2 * v1 + v2 : Nat) : Int) := by rw [IntKind.wrap_u64]; omega
   have w3 : IntKind.u64.wrap (((2 * v1 + v2 : Nat) : Int) - (m : Int)) = ((2 * v1 + v2 - m : Nat) : Int) := by rw [IntKind.wrap_u64]; omega
   have HT2 := Lib.hid ht2
   clear ht2
   go_enter Tryz.func103,Tryz.ntmps103
   go_wp2_with fail
   refine (LN.out _).mono ?_
   rintro e w1 ⟨rfl,rfl⟩
   obtain ⟨f1,f2,f3,f4⟩ := F.out
   go_upto_region 5 with fail
   clear f1 f2 f3 
   go_wp2_with fail
   refine T1.out.mono ?_
   rintro e w5 ⟨rfl,h2⟩
   have H2 := Lib.hid h2
   clear h2
   go_wp2_with fail
   refine (T2.out _ H2.out).mono ?_
   rintro e w6 ⟨rfl,h3⟩
   have H3 := Lib.hid h3
   clear h3 H2
   go_wp2_with fail
   go_ret
   refine ⟨2 * v1 + v2 - m,a2,_,by simp; omega,by omega,H3.out,fun h => by rw [HB1.out,h]; rfl,fun h => ?_⟩
   have OO := HO.out
   have ht1 := HT1.out
   have hb1 := HB1.out
   have hle := HLE.out
   have ht2 := HT2.out
   have hc0 := HC0.out
   rw [if_neg hc0] at OO
   rw [h,Bool.false_or] at hb1
   by_cases hl : a + (c - 1) <= 8 * s.size
   ·rw [tkP_ok hl] at ht1
    obtain ⟨e1,e2⟩ := Prod.mk.inj ht1
    rw [if_neg (by omega),e1,if_neg hlt] at OO
    rw [decide_eq_false (by omega)] at hb1
    rw [hb1,Bool.false_or]
    subst e2
    by_cases hl2 : a + c <= 8 * s.size
    ·rw [tkP_ok (by omega)] at ht2
     obtain ⟨e3,e4⟩ := Prod.mk.inj ht2
     have TS := take_succ_num ((unpack (nats s)).drop a) (c - 1) (by rw [List.length_drop,bits_len]; omega)
     rw [show c - 1 + 1 = c by omega,e1,List.drop_drop,e3] at TS
     rw [if_neg (by omega),TS] at OO
     subst OO
     exact ⟨rfl,by show a2 = a + c; omega,decide_eq_false (by omega)⟩
    ·rw [if_pos (by omega)] at OO
     subst OO
     exact decide_eq_true (by omega)
   ·rw [if_pos (by omega)] at OO
    subst OO
    rw [hb1,decide_eq_true (by omega)]
    rfl

set_option maxRecDepth 100000 in
set_option maxHeartbeats 3200000 in
theorem qgamma_any (x : Nat → Nat) (d t : Nat) (hdt : d ≠ t) (w : World) (rb qb : Nat) (s : ByteArray) (a : Nat) (ks : List (Nat × Obj)) (W : World) (h : RQ x d t w rb qb s a false ks W) :
  Calls Tryz.prog 101 #[.pointer (some ⟨qb,0,none⟩),.int .i64 47] W (ReadP x d t w rb qb s a false ks (rd0 .gam ((unpack (nats s)).drop a))) := by
 have ZE := Lib.hid (zeros_any x d t hdt w rb qb s a 47 (by decide) ks W h)
 rw [show ((47 : Nat) : Int) = 47 from rfl] at ZE
 have hle := h.le
 have HLE := Lib.hid hle
 clear h hle
 have ZB := Lib.hid (fun n => zer_bound 48 ((unpack (nats s)).drop a) n)
 obtain ⟨o,ho⟩ : ∃ o,zer 48 ((unpack (nats s)).drop a) = o := ⟨_,rfl⟩
 rw [show 47 + 1 = 48 from rfl,ho] at ZE
 have RG := Lib.hid (rd0_gam ((unpack (nats s)).drop a))
 rw [ho] at RG ZB
 clear ho
 go_enter Tryz.func101,Tryz.ntmps101
 go_wp2_with fail
 refine ZE.out.mono ?_
 rintro e w1 ⟨b,a1,bad,rfl,hz,h1⟩
 have HZ := Lib.hid hz
 have hb : b <= 47 := by
  unfold zerP at hz
  cases o with
  | none => omega
  | some n => have := ZB.out n rfl; omega
 have TK := Lib.hid (fun W h => qtake_any x d t hdt w rb qb s a1 b (by omega) bad ks W h)
 obtain ⟨pw,hpw⟩ : ∃ pw,2 ^ b = pw := ⟨_,rfl⟩
 have hpw1 : pw <= 281474976710656 := hpw ▸ pow48 (by omega)
 have hpw0 : 1 <= pw := by rw [<- hpw]; exact Nat.pow_pos (by decide)
 have f1 : min b 64 = b := Nat.min_eq_left (by omega)
 have f2 := u64_pow b pw hpw (by omega)
 obtain ⟨v1,a2,ht⟩ : ∃ v1 a2,tkP s a1 b = (v1,a2) := ⟨_,_,rfl⟩
 have hv1 : v1 < pw := by
  have e : v1 = (tkP s a1 b).1 := by rw [ht]
  rw [e,<- hpw]
  unfold tkP
  split
  ·exact Nat.lt_of_lt_of_le (num_lt _) (Nat.pow_le_pow_right (by decide) (by rw [List.length_take]; omega))
  ·exact Nat.pow_pos (by decide)
 rw [ht] at TK
 dsimp only at TK
 have HT := Lib.hid ht
 have HPW := Lib.hid hpw
 have H1 := Lib.hid h1
 have f3 : IntKind.u64.wrap ((v1 : Int) + (pw : Int)) = ((v1 + pw : Nat) : Int) := by clear f2; rw [IntKind.wrap_u64]; omega
 have f4 : IntKind.u64.wrap ((v1 : Int) + (pw : Int) - 1) = ((v1 + pw - 1 : Nat) : Int) := by clear f2; rw [IntKind.wrap_u64]; omega
 have hvb : v1 + pw - 1 < 18446744073709551616 := by clear f2 f3 f4; omega
 have hb0 : (0 : Int) <= (b : Int) := Int.natCast_nonneg b
 clear hz ht hpw h1 hpw1 hpw0 hv1 hb ZB ZE
 go_upto_region 2 with fail
 go_region_held3 (fun _ => True) (first | trivial)
  (first | (go_at_call 102; refine (TK.out _ (by first | exact H1.out | exact H1.out.next (Below.drew (Below.refl _ _)))).mono ?_; rintro e w2 ⟨rfl,h2⟩; have H2 := Lib.hid h2; clear h2))
 all_goals
  clear f1 f2 f3
  go_wp2_with fail
  go_ret
  refine ⟨v1 + pw - 1,a2,_,rfl,hvb,H2.out,(fun h => by cases h),fun _ => ?_⟩
  have hz := HZ.out
  have ht := HT.out
  have hle := HLE.out
  rw [RG.out]
  cases o with
  | none =>
   show (bad || _) = true
   rw [hz.2]; rfl
  | some n =>
   obtain ⟨rfl,rfl,rfl⟩ := hz
   have hle1 := H1.out.le
   rw [Option.bind_some,List.length_drop,List.length_drop,bits_len]
   by_cases hl : a + b + 1 + b <= 8 * s.size
   ·rw [tkP_ok hl] at ht
    obtain ⟨e1,e2⟩ := Prod.mk.inj ht
    rw [if_neg (by omega),List.drop_drop,<- Nat.add_assoc,e1,HPW.out]
    exact ⟨rfl,by show a2 = a + (b + 1 + b); omega,by rw [decide_eq_false (by omega)]; rfl⟩
   ·rw [if_pos (by omega),decide_eq_true (by omega)]
    rfl

theorem u64_step (v fr : Nat) (h : 1 ≤ fr ∧ fr ≤ 281474976710656) : ∃ u : Nat, IntKind.u64.wrap (IntKind.u64.wrap ((v : Int) + (fr : Int)) - 1) = (u : Int) ∧ u < 18446744073709551616 ∧ (v + fr < 18446744073709551616 → u = v + fr - 1) := by
 refine ⟨(IntKind.u64.wrap (IntKind.u64.wrap ((v : Int) + (fr : Int)) - 1)).toNat,?_,?_,?_⟩ <;> simp only [IntKind.wrap_u64] <;> omega
set_option maxRecDepth 100000 in
set_option maxHeartbeats 3200000 in
theorem qnumber_any (x : Nat → Nat) (d t : Nat) (hdt : d ≠ t) (c : Cd) (hc : c.ok) (w : World) (rb qb : Nat) (s : ByteArray) (a : Nat) (ks : List (Nat × Obj)) (W : World) (h : RQ x d t w rb qb s a false ks W) :
  Calls Tryz.prog 74 #[.pointer (some ⟨qb,0,none⟩),cdV c] W (ReadP x d t w rb qb s a false ks (rd0 c ((unpack (nats s)).drop a))) := by
 cases c with
 | una =>
  have H1 := Lib.hid (h.next ((Below.refl W.heap.size W).alloc (Nat.le_refl _) (.cells #[.int .u8 0,.int .u64 0] 101)))
  have ZE := Lib.hid (zeros_any x d t hdt w rb qb s a 65535 (by decide) ks _ H1.out)
  rw [rd0_una]
  have ZB := Lib.hid (fun n => zer_bound 65536 ((unpack (nats s)).drop a) n)
  obtain ⟨o,ho⟩ : ∃ o,zer 65536 ((unpack (nats s)).drop a) = o := ⟨_,rfl⟩
  rw [show ((65535 : Nat) : Int) = 65535 from rfl,show 65535 + 1 = 65536 from rfl,ho] at ZE
  rw [ho] at ZB ⊢
  clear ho h
  unfold cdV
  go_enter Tryz.func74,Tryz.ntmps74
  go_wp2_with fail
  refine ZE.out.mono ?_
  rintro e w1 ⟨v,a1,bad,rfl,hz,h1⟩
  have H2 := Lib.hid h1
  have hv : v <= 65535 := by
   unfold zerP at hz
   cases o with
   | none => omega
   | some n => have := ZB.out n rfl; omega
  have HZ := Lib.hid hz
  have w0 : IntKind.u64.wrap (v : Int) = (v : Int) := by rw [IntKind.wrap_u64]; omega
  clear hz h1 ZE
  go_wp2_with fail
  go_ret
  refine ⟨v,a1,bad,rfl,by omega,H2.out,(fun h => by cases h),fun _ => ?_⟩
  have hz := HZ.out
  cases o with
  | none => exact hz.2
  | some n => exact ⟨hz.1,by have := hz.2.1; show a1 = a + (n + 1); omega,hz.2.2⟩
 | gam =>
  have H1 := Lib.hid (h.next ((Below.refl W.heap.size W).alloc (Nat.le_refl _) (.cells #[.int .u8 1,.int .u64 0] 101)))
  have ZE := Lib.hid (qgamma_any x d t hdt w rb qb s a ks _ H1.out)
  obtain ⟨o,ho⟩ : ∃ o,rd0 .gam ((unpack (nats s)).drop a) = o := ⟨_,rfl⟩
  rw [ho] at ZE ⊢
  clear ho h
  unfold cdV
  go_enter Tryz.func74,Tryz.ntmps74
  go_wp2_with fail
  refine ZE.out.mono ?_
  rintro e w1 ⟨v,a1,bad,rfl,hz⟩
  have HZ := Lib.hid hz
  clear hz ZE
  go_wp2_with fail
  go_ret
  obtain ⟨z1,z2,z3,z4⟩ := HZ.out
  exact ⟨v,a1,bad,rfl,z1,z2,z3,fun _ => z4 trivial⟩
 | zet k =>
  obtain ⟨hk1,hk2⟩ : 1 <= k /\ k <= 16 := hc
  have K0 := Lib.hid (h.keep #[.int .u8 3,.int .u64 (k : Int)] 101)
  have r0 := K0.out.row (List.mem_cons_self ..)
  have g0 : (W.alloc (.cells #[.int .u8 3,.int .u64 (k : Int)] 101)).cell? ⟨W.heap.size,0,none⟩ = some (.int .u8 3) := by rw [cell_of_row _ _ _ _ _ _ r0]; rfl
  have g1 : (W.alloc (.cells #[.int .u8 3,.int .u64 (k : Int)] 101)).cell? ⟨W.heap.size,1,none⟩ = some (.int .u64 (k : Int)) := by rw [cell_of_row _ _ _ _ _ _ r0]; rfl
  have ZE := Lib.hid (zeros_any x d t hdt w rb qb s a (47 / k) (Nat.le_trans (Nat.div_le_self _ _) (by decide)) _ _ K0.out)
  have RZ := Lib.hid (rd0_zet k ((unpack (nats s)).drop a))
  have ZB := Lib.hid (fun n => zer_bound (47 / k + 1) ((unpack (nats s)).drop a) n)
  obtain ⟨o,ho⟩ : ∃ o,zer (47 / k + 1) ((unpack (nats s)).drop a) = o := ⟨_,rfl⟩
  rw [ho] at ZE RZ ZB
  obtain ⟨mz,hmz⟩ : ∃ m,47 / k = m := ⟨_,rfl⟩
  have hq := quo_nat 47 k mz hmz
  rw [show ((47 : Nat) : Int) = 47 from rfl] at hq
  have hmk : mz * k <= 47 := by rw [<- hmz]; exact Nat.div_mul_le_self 47 k
  rw [hmz] at ZE ZB
  have f0 := w64_nat k (by omega)
  have f0' := i64_nat k (by omega)
  have hkne := int_nz k hk1
  have f0q := w64_nat mz (Nat.le_trans (hmz ▸ Nat.div_le_self 47 k) (by decide))
  have Q := Lib.hid (And.intro f0 (And.intro f0' (And.intro hq (And.intro hkne f0q))))
  obtain ⟨sz,hsz⟩ : ∃ z,W.heap.size = z := ⟨_,rfl⟩
  rw [hsz] at ZE g0 g1
  have HKK := Lib.hid hk2
  clear ho h f0 f0' f0q hq hkne hmz K0 r0
  unfold cdV
  go_enter Tryz.func74,Tryz.ntmps74
  go_upto_region 13 with fail
  obtain ⟨f0,f0', hq,hkne,f0q⟩ := Q.out
  go_wp2_with fail
  clear f0 f0' f0q hq hkne g0 g1
  with_reducible refine ZE.out.mono ?_
  rintro e w1 ⟨h,a1,bad,rfl,hz,h1⟩
  have hh : h <= mz := by
   unfold zerP at hz
   cases o with
   | none => omega
   | some n => have := ZB.out n rfl; omega
  have hhk : h * k <= 47 := Nat.le_trans (Nat.mul_le_mul_right k hh) hmk
  obtain ⟨m,hm⟩ : ∃ m,h * k = m := ⟨_,rfl⟩
  have hm1 : (h + 1) * k = m + k := by rw [Nat.add_mul,hm,Nat.one_mul]
  rw [hm] at hhk
  obtain ⟨fr,hfr⟩ : ∃ fr,2 ^ m = fr := ⟨_,rfl⟩
  obtain ⟨tt,htt⟩ : ∃ tt,2 ^ (m + k) = tt := ⟨_,rfl⟩
  have hfk : fr * 2 ^ k = tt := by rw [<- hfr,<- htt,Nat.pow_add]
  have hmk : m + k <= 63 := Nat.add_le_add hhk hk2
  have htt2 : tt <= 9223372036854775808 := htt ▸ pow63 hmk
  have hfr0 : 1 <= fr := by rw [<- hfr]; exact Nat.pow_pos (by decide)
  have hfr1 : 2 * fr <= tt := by
   rw [<- hfk,Nat.mul_comm]
   refine Nat.mul_le_mul_left fr ?_
   calc 2 = 2 ^ 1 := rfl
    _ <= 2 ^ k := Nat.pow_le_pow_right (by decide) hk1
  have hfr2 : fr <= tt := Nat.le_trans (by rw [Nat.two_mul]; exact Nat.le_add_right _ _) hfr1
  have hfr3 : fr <= 281474976710656 := hfr ▸ pow48 (Nat.le_trans hhk (by decide))
  have SH := Lib.hid (fun W ks bad h => qshort_any x d t hdt w rb qb s a1 (tt - fr) (by clear hfk; omega) (Nat.le_trans (Nat.sub_le _ _) htt2) bad ks W h)
  have f3 := i64_mul h k m hm (Nat.le_trans hhk (by decide))
  have f4 : min m 64 = m := Nat.min_eq_left (Nat.le_trans hhk (by decide))
  have f5 := u64_pow m fr hfr (Nat.le_trans hfr2 htt2)
  have f7 : min k 64 = k := Nat.min_eq_left (Nat.le_trans hk2 (by decide))
  have f8 := u64_mul fr k tt hfk htt2
  have f9 := u64_sub tt fr hfr2 htt2
  have f11 : (0 : Int) <= (m : Int) := Int.natCast_nonneg m
  have f12 : (0 : Int) <= (k : Int) := Int.natCast_nonneg k
  have F := Lib.hid (And.intro f7 (And.intro f8 (And.intro f9 f12)))
  have HZ := Lib.hid hz
  have H1 := Lib.hid h1
  have HFR := Lib.hid hfr
  have HTT := Lib.hid htt
  have HM1 := Lib.hid hm1
  have HM := Lib.hid hm
  have B := Lib.hid (And.intro hfr0 (And.intro hfr1 (And.intro hfr3 htt2)))
  clear f7 f8 f9 f12 hfr0 hfr1 hfr2 hfr3 htt2 hmk hfk htt hfr hm1 hm hhk hz h1 hh ZE ZB
  go_upto_region 15 with fail
  clear f3 f4 f5 f11
  obtain ⟨f7,f8,f9,f12⟩ := F.out
  go_wp2_with fail
  with_reducible refine (SH.out _ _ _ H1.out).mono ?_
  rintro e w2 ⟨v,a2,bad2,rfl,hv,h2,hb2,hg⟩
  have H2 := Lib.hid (show RQ x d t w rb qb s a2 bad2 ks w2 from h2.less)
  have HG := Lib.hid (And.intro hb2 hg)
  clear f7 f8 f9 f12 h2 hb2 hg SH
  obtain ⟨u,hu,hul,hug⟩ := u64_step v fr (by have := B.out; omega)
  have HUG := Lib.hid hug
  clear hug
  go_wp2_with fail
  go_ret
  refine ⟨u,a2,bad2,rfl,hul,H2.out,(fun h => by cases h),fun _ => ?_⟩
  have hz := HZ.out
  obtain ⟨hb2,hg⟩ := HG.out
  obtain ⟨b0,b1,b2,b3⟩ := B.out
  rw [RZ.out]
  cases o with
  | none => exact hb2 hz.2
  | some n =>
   obtain ⟨rfl,rfl,rfl⟩ := hz
   have hg := hg rfl
   rw [Option.bind_some,List.drop_drop,<- Nat.add_assoc,HM1.out,HM.out,HTT.out,HFR.out]
   cases hmr : mread (tt - fr) ((unpack (nats s)).drop (a + h + 1)) with
   | none => rw [hmr] at hg; exact hg
   | some q =>
    rw [hmr] at hg
    obtain ⟨e1,e2,e3⟩ := hg
    have hml := (mread_bound (k := tt - fr) (by omega) (v := q.1) (n := q.2) hmr).1
    refine ⟨?_,?_,e3⟩
    ·show u = q.1 + fr - 1
     have := HUG.out (by omega)
     omega
    ·show a2 = a + (h + 1 + q.2)
     omega
set_option maxRecDepth 100000 in
set_option maxHeartbeats 3200000 in
theorem dcheck_any (win itv zet : Int) (w : World) : Calls Tryz.prog 47 #[parV win itv zet] w fun e w' => e = .returned (.int .i64 (if ParOk win itv zet then 0 else 1)) ∧ Below w.heap.size w w' := by
 unfold parV
 obtain ⟨k,hk⟩ : ∃ k : Int,(if ParOk win itv zet then 0 else 1) = k := ⟨_,rfl⟩
 rw [hk]
 have HK := Lib.hid hk
 clear hk
 have YES : Hid (ParOk win itv zet -> k = 0) := Lib.hid (fun h => by have := HK.out; rw [if_pos h] at this; exact this.symm)
 have NO : Hid (¬ ParOk win itv zet -> k = 1) := Lib.hid (fun h => by have := HK.out; rw [if_neg h] at this; exact this.symm)
 clear HK
 by_cases h1 : win < 0
 ·
  obtain rfl := NO.out (fun h => by have := h.1; omega)
  clear YES NO
  go_enter Tryz.func47,Tryz.ntmps47
  go_wp2_with fail
  go_ret
  exact ⟨rfl,(by repeat (first | exact Below.refl _ _ | refine below_drewN ?_ _ | refine Below.setCell ?_ (by simp; try omega) _ | refine Below.alloc ?_ (by simp; try omega) _))⟩
 by_cases h2 : 16 < win
 ·
  obtain rfl := NO.out (fun h => by have := h.2.1; omega)
  clear YES NO
  go_enter Tryz.func47,Tryz.ntmps47
  go_wp2_with fail
  go_ret
  exact ⟨rfl,(by repeat (first | exact Below.refl _ _ | refine below_drewN ?_ _ | refine Below.setCell ?_ (by simp; try omega) _ | refine Below.alloc ?_ (by simp; try omega) _))⟩
 by_cases h5 : itv = 0
 ·subst h5
  have h5' : ((0 : Int) != 0) = false := rfl
  by_cases h3 : zet < 1
  ·
   obtain rfl := NO.out (fun h => by have := h.2.2.2.1; omega)
   clear YES NO
   go_enter Tryz.func47,Tryz.ntmps47
   go_wp2_with fail
   go_ret
   exact ⟨rfl,(by repeat (first | exact Below.refl _ _ | refine below_drewN ?_ _ | refine Below.setCell ?_ (by simp; try omega) _ | refine Below.alloc ?_ (by simp; try omega) _))⟩
  by_cases h4 : 16 < zet
  ·
   obtain rfl := NO.out (fun h => by have := h.2.2.2.2; omega)
   clear YES NO
   go_enter Tryz.func47,Tryz.ntmps47
   go_wp2_with fail
   go_ret
   exact ⟨rfl,(by repeat (first | exact Below.refl _ _ | refine below_drewN ?_ _ | refine Below.setCell ?_ (by simp; try omega) _ | refine Below.alloc ?_ (by simp; try omega) _))⟩
  obtain rfl := YES.out ⟨by omega,by omega,.inl rfl,by omega,by omega⟩
  clear YES NO
  go_enter Tryz.func47,Tryz.ntmps47
  go_wp2_with fail
  go_ret
  exact ⟨rfl,(by repeat (first | exact Below.refl _ _ | refine below_drewN ?_ _ | refine Below.setCell ?_ (by simp; try omega) _ | refine Below.alloc ?_ (by simp; try omega) _))⟩
 have h5' : (itv != 0) = true := by simpa using h5
 by_cases h6 : itv < 2
 ·
  obtain rfl := NO.out (fun h => by have := h.2.2.1; omega)
  clear YES NO
  go_enter Tryz.func47,Tryz.ntmps47
  go_wp2_with fail
  go_ret
  exact ⟨rfl,(by repeat (first | exact Below.refl _ _ | refine below_drewN ?_ _ | refine Below.setCell ?_ (by simp; try omega) _ | refine Below.alloc ?_ (by simp; try omega) _))⟩
 by_cases h7 : 64 < itv
 ·
  obtain rfl := NO.out (fun h => by have := h.2.2.1; omega)
  clear YES NO
  go_enter Tryz.func47,Tryz.ntmps47
  go_wp2_with fail
  go_ret
  exact ⟨rfl,(by repeat (first | exact Below.refl _ _ | refine below_drewN ?_ _ | refine Below.setCell ?_ (by simp; try omega) _ | refine Below.alloc ?_ (by simp; try omega) _))⟩
 by_cases h3 : zet < 1
 ·
  obtain rfl := NO.out (fun h => by have := h.2.2.2.1; omega)
  clear YES NO
  go_enter Tryz.func47,Tryz.ntmps47
  go_wp2_with fail
  go_ret
  exact ⟨rfl,(by repeat (first | exact Below.refl _ _ | refine below_drewN ?_ _ | refine Below.setCell ?_ (by simp; try omega) _ | refine Below.alloc ?_ (by simp; try omega) _))⟩
 by_cases h4 : 16 < zet
 ·
  obtain rfl := NO.out (fun h => by have := h.2.2.2.2; omega)
  clear YES NO
  go_enter Tryz.func47,Tryz.ntmps47
  go_wp2_with fail
  go_ret
  exact ⟨rfl,(by repeat (first | exact Below.refl _ _ | refine below_drewN ?_ _ | refine Below.setCell ?_ (by simp; try omega) _ | refine Below.alloc ?_ (by simp; try omega) _))⟩
 obtain rfl := YES.out ⟨by omega,by omega,.inr ⟨by omega,by omega⟩,by omega,by omega⟩
 clear YES NO
 go_enter Tryz.func47,Tryz.ntmps47
 go_wp2_with fail
 go_ret
 exact ⟨rfl,(by repeat (first | exact Below.refl _ _ | refine below_drewN ?_ _ | refine Below.setCell ?_ (by simp; try omega) _ | refine Below.alloc ?_ (by simp; try omega) _))⟩
set_option maxRecDepth 100000 in
set_option maxHeartbeats 1600000 in
theorem dsucc_any (w : World) (a : Option Addr) (l : List Nat) (cap : Nat) (h : LV w a l) : Calls Tryz.prog 53 #[.slice a l.length cap] w (YesNoB (Ris l) w) := by
 have H := Lib.hid h.2
 have hz := h.1
 have R := Lib.hid (ris_iff l)
 clear h
 obtain ⟨n,hn⟩ : ∃ n,l.length = n := ⟨_,rfl⟩
 have HN := Lib.hid hn
 rw [hn] at hz ⊢
 clear hn
 go_enter Tryz.func53,Tryz.ntmps53
 go_wp2_with fail
 go_loopw [3] (fun vi wr => ∃ i : Nat,vi = .int .i64 (i : Int) /\ i <= n /\ (∃ q,wr = w.drewN q) /\ ∀ j (hj : j < l.length),j < i -> l[j] < 65536 /\ ∀ h0 : 0 < j,l[j - 1] < l[j]) (fun vi _ => n - (intOf vi).toNat)
 case atStart => exact ⟨0,rfl,Nat.zero_le _,⟨0,rfl⟩,fun j _ h => by omega⟩
 case round =>
  obtain ⟨i,rfl,hi,⟨q,rfl⟩,hj⟩ := hrel
  have HJ := Lib.hid hj
  clear hj
  by_cases hlt : i < n
  ·obtain ⟨g,o,rfl,hg,hc,hb⟩ := H.out i (by rw [HN.out]; exact hlt)
   obtain ⟨v,hv⟩ : ∃ v,l[i]'(by rw [HN.out]; exact hlt) = v := ⟨_,rfl⟩
   rw [hv] at hc hb
   have HV := Lib.hid hv
   have i1 : decide ((i : Int) < (n : Int)) = true := decide_eq_true (by omega)
   by_cases h65 : v < 65536
   ·have j1 : decide ((65536 : Int) <= (v : Int)) = false := decide_eq_false (by omega)
    by_cases h0 : 0 < i
    ·obtain ⟨g', o', he,hg', hc', hb'⟩ := H.out (i - 1) (by rw [HN.out]; omega)
     obtain ⟨rfl,rfl⟩ : g' = g /\ o' = o := by injection he with he; injection he with e1 e2; exact ⟨e1.symm,e2.symm⟩
     obtain ⟨u,hu⟩ : ∃ u,l[i - 1]'(by rw [HN.out]; omega) = u := ⟨_,rfl⟩
     rw [hu] at hc' hb'
     have HU := Lib.hid hu
     have j2 : decide ((0 : Int) < (i : Int)) = true := decide_eq_true (by omega)
     have j2n : decide (0 < i) = true := decide_eq_true h0
     have j3 : IntKind.i64.wrap ((i : Int) - 1) = ((i - 1 : Nat) : Int) := by rw [IntWalk.i64_in _ (by omega)]; omega
     have j4 : ((i - 1 : Nat) : Int) < (n : Int) := by omega
     have j5 : (0 : Int) <= ((i - 1 : Nat) : Int) := Int.natCast_nonneg _
     clear hv hu he
     by_cases huv : u < v
     ·have j6 : decide ((v : Int) <= (u : Int)) = false := decide_eq_false (by omega)
      go_upto_region 4 with fail
      go_quiet (fail)
      go_wp2_with fail
      go_roundw
      case rel =>
       refine ⟨i + 1,by go_num,by omega,⟨_,(by first | rfl | exact drewN_add _ _ _)⟩,fun j hj hji => ?_⟩
       by_cases hji2 : j = i
       ·subst hji2
        have e1 := HV.out
        have e2 := HU.out
        exact ⟨by omega,fun _ => by omega⟩
       ·exact HJ.out j hj (by omega)
      case measure => simp [intOf]; omega
     ·have j6 : decide ((v : Int) <= (u : Int)) = true := decide_eq_true (by omega)
      go_upto_region 4 with fail
      go_quiet (fail)
      go_wp2_with fail
      go_ret
      refine ⟨false,rfl,?_,⟨rfl,rfl,rfl,Nat.le_refl _,fun _ _ => rfl⟩⟩
      rw [R.out]
      refine ⟨fun h => (by cases h),fun h => ?_⟩
      have h1 := (h i (by rw [HN.out]; exact hlt)).2 h0
      have e1 := HV.out
      have e2 := HU.out
      omega
    ·have j2 : decide ((0 : Int) < (i : Int)) = false := decide_eq_false (by omega)
     have j2n : decide (0 < i) = false := decide_eq_false h0
     clear hv
     go_upto_region 4 with fail
     go_quiet (fail)
     go_wp2_with fail
     go_roundw
     case rel =>
      refine ⟨i + 1,by go_num,by omega,⟨_,(by first | rfl | exact drewN_add _ _ _)⟩,fun j hj hji => ?_⟩
      by_cases hji2 : j = i
      ·subst hji2
       have e1 := HV.out
       exact ⟨by omega,fun h => absurd h h0⟩
      ·exact HJ.out j hj (by omega)
     case measure => simp [intOf]; omega
   ·have j1 : decide ((65536 : Int) <= (v : Int)) = true := decide_eq_true (by omega)
    clear hv
    go_upto_region 4 with fail
    go_quiet (fail)
    go_wp2_with fail
    go_ret
    refine ⟨false,rfl,?_,⟨rfl,rfl,rfl,Nat.le_refl _,fun _ _ => rfl⟩⟩
    rw [R.out]
    refine ⟨fun h => (by cases h),fun h => ?_⟩
    have h1 := (h i (by rw [HN.out]; exact hlt)).1
    have e1 := HV.out
    omega
  ·have i1 : decide ((i : Int) < (n : Int)) = false := decide_eq_false (by omega)
   go_wp2_with fail
   go_ret
   refine ⟨true,rfl,?_,⟨rfl,rfl,rfl,Nat.le_refl _,fun _ _ => rfl⟩⟩
   rw [R.out]
   exact ⟨fun _ j hj => HJ.out j hj (by rw [HN.out] at hj; omega),fun _ => rfl⟩

end Go.Proofs.YtflnpcgnenhogaaGreatDoor.ls
