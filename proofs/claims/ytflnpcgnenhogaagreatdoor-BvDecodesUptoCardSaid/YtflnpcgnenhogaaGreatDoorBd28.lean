/- Own lemmas, laid together. -/
import Derived.Test.YtflnpcgnenhogaaGreatDoorBd27
namespace Go.Proofs.YtflnpcgnenhogaaGreatDoor.ls
open Go.RowKit Go.Proofs.YtflnpcgnenhogaaGreatDoor.own Go.Proofs.YtflnpcgnenhogaaGreatDoor.bit

theorem mayN_mayI {x : Nat} {succ ref : List Nat} {r : Nat} {p : Pr} : MayI (p.win : Int) (p.itv : Int) (p.zet : Int) (x : Int) succ ref (r : Int) ↔ MayN x succ ref r p := by
 unfold MayI MayN ParOk Pr.ok
 constructor
 ·rintro ⟨⟨h1,h2,h3,h4⟩,⟨h5,h6⟩,h7,h8,h9,h10,h11⟩
  exact ⟨⟨by omega,by omega,by omega⟩,by omega,h7,h8,by omega,h11.elim (fun h => .inl (by omega)) .inr⟩
 ·rintro ⟨⟨h1,h2,h3⟩,h5,h7,h8,h9,h10⟩
  exact ⟨⟨by omega,by omega,by omega,by omega,by omega⟩,by omega,h7,h8,by omega,by omega,h10.elim (fun h => .inl (by omega)) .inr⟩

set_option maxRecDepth 100000 in
set_option maxHeartbeats 6400000 in
theorem lbits_yes (p : Pr) (x : Nat) (w : World) (hG : GL w) (a : Option Addr) (succ : List Nat) (cap : Nat) (b : Option Addr) (ref : List Nat) (capb r : Nat) (hc : succ.length ≤ cap) (hcb : ref.length ≤ capb) (hm : MayN x succ ref r p) (hA : LV w a succ) (hB : LV w b ref) :
  Calls Tryz.prog 66 #[.int .i64 (x : Int),.slice a succ.length cap,.slice b ref.length capb,.int .i64 (r : Int),parV (p.win : Int) (p.itv : Int) (p.zet : Int)] w fun e w' => e = .returned (.tuple #[.int .i64 ((lay x succ ref r p).length : Int),.int .i64 0]) /\ Below w.heap.size w w' := by
 have MY := Lib.hid (fun W (k : Below w.heap.size w W) => lmay_any (p.win : Int) (p.itv : Int) (p.zet : Int) (x : Int) W a succ cap (hA.below k) b ref capb (hB.below k) (r : Int))
 have NU := Lib.hid (fun W (k : Below w.heap.size w W) => numbers_any p x W (hG.below k) a succ cap b ref capb r hc hcb hm (hA.below k) (hB.below k))
 have YES := Lib.hid (mayN_mayI.2 hm)
 have LL := Lib.hid (lay_len hm)
 obtain ⟨nok,nlen⟩ := nums_ok hm
 have NE := Lib.hid (nums_ne x succ ref r p)
 have LD : Hid (lay x succ ref r p = bitsOf (nums x succ ref r p)) := Lib.hid rfl
 generalize lay x succ ref r p = LB at LL LD ⊢
 generalize nums x succ ref r p = NN at NU nok nlen NE LD
 have NOK := Lib.hid nok
 unfold parV at MY NU ⊢
 clear hG hA hB hm nok
 go_enter Tryz.func66,Tryz.ntmps66
 go_upto_region 1 with fail
 have r1 := heap_alloc_new w (.cells #[.int .i64 (p.win : Int),.int .i64 (p.itv : Int),.int .i64 (p.zet : Int)] 42)
 have kb : Below w.heap.size w (w.alloc (.cells #[.int .i64 (p.win : Int),.int .i64 (p.itv : Int),.int .i64 (p.zet : Int)] 42)) := (by repeat (first | exact Below.refl _ _ | refine below_drewN ?_ _ | refine Below.setCell ?_ (by simp; try omega) _ | refine Below.alloc ?_ (by simp; try omega) _))
 generalize w.alloc _ = W1 at r1 kb ⊢
 have c0 : W1.cell? ⟨w.heap.size,0,none⟩ = some (.int .i64 (p.win : Int)) := by rw [cell_of_row _ _ _ _ _ _ r1]; rfl
 have c1 : W1.cell? ⟨w.heap.size,1,none⟩ = some (.int .i64 (p.itv : Int)) := by rw [cell_of_row _ _ _ _ _ _ r1]; rfl
 have c2 : W1.cell? ⟨w.heap.size,2,none⟩ = some (.int .i64 (p.zet : Int)) := by rw [cell_of_row _ _ _ _ _ _ r1]; rfl
 have KB := Lib.hid kb
 have R1 := Lib.hid r1
 have hl1 := lt_of_block r1
 clear kb r1
 go_wp2_with fail
 with_reducible refine (MY.out _ KB.out).mono ?_
 rintro e w2 ⟨b0,rfl,hb0,k2⟩
 have hb : b0 = true := hb0.2 YES.out
 subst hb
 have K2 := Lib.hid (KB.out.trans (k2.mono KB.out.size))
 have r2 := (k2.block _ hl1).trans R1.out
 clear hb0 c0 c1 c2 k2
 have c0 : w2.cell? ⟨w.heap.size,0,none⟩ = some (.int .i64 (p.win : Int)) := by rw [cell_of_row _ _ _ _ _ _ r2]; rfl
 have c1 : w2.cell? ⟨w.heap.size,1,none⟩ = some (.int .i64 (p.itv : Int)) := by rw [cell_of_row _ _ _ _ _ _ r2]; rfl
 have c2 : w2.cell? ⟨w.heap.size,2,none⟩ = some (.int .i64 (p.zet : Int)) := by rw [cell_of_row _ _ _ _ _ _ r2]; rfl
 clear r2
 go_wp2_with fail
 with_reducible refine (NU.out _ K2.out).mono ?_
 rintro e w3 hN
 obtain ⟨g,cg,cur,rfl,hg1,hg2,hk,CC⟩ := hN.lies NE.out
 have K3 := Lib.hid (K2.out.trans (hk.mono K2.out.size))
 have CC := Lib.hid CC
 have G2 := Lib.hid hg2
 have HK := Lib.hid hk
 clear hN hg1 hg2 hk c0 c1 c2
 obtain ⟨n,hn⟩ : ∃ n,NN.length = n := ⟨_,rfl⟩
 have HN := Lib.hid hn
 rw [hn] at nlen ⊢
 clear hn
 go_wp2_with fail
 go_loopw [12,31] (fun va vi wr => ∃ i : Nat,vi = .int .i64 (i : Int) /\ i <= n /\ va = .int .i64 ((bitsOf (NN.take i)).length : Int) /\ Below w3.heap.size w3 wr) (fun _ vi _ => n - (intOf vi).toNat)
 case atStart => exact ⟨0,rfl,Nat.zero_le _,rfl,Below.refl _ _⟩
 case round =>
  obtain ⟨i,rfl,hi,rfl,hk⟩ := hrel
  have HKR := Lib.hid hk
  by_cases hlt : i < n
  ·have hin : i < NN.length := by rw [HN.out]; exact hlt
   obtain ⟨kd,kk,e1,e2,e3,e4⟩ := CC.out wr ((hk.block _ (lt_of_block G2.out)).trans G2.out) i hin
   have hq := NOK.out _ (List.getElem_mem hin)
   have BT := Lib.hid (bitsOf_take NN i hin)
   have BL := bits_take_le NN (i + 1)
   rw [BT.out] at BL
   rw [<- LD.out,List.length_append] at BL
   have hll := LL.out
   have CL := Lib.hid (fun W => clen_any NN[i].1 hq.1 NN[i].2 hq.most W)
   rw [e1] at CL
   obtain ⟨v,hv⟩ : ∃ v,NN[i].2 = v := ⟨_,rfl⟩
   rw [hv] at e4 CL
   obtain ⟨cl,hcl⟩ : ∃ cl,(cb NN[i].1 NN[i].2).length = cl := ⟨_,rfl⟩
   have hcl2 := hcl
   rw [hv] at hcl2
   rw [hcl2] at CL
   rw [hcl] at BL
   have HCL := Lib.hid hcl
   obtain ⟨tl,htl⟩ : ∃ tl,(bitsOf (NN.take i)).length = tl := ⟨_,rfl⟩
   rw [htl] at BL ⊢
   have HTL := Lib.hid htl
   have KA : Hid (∀ W,Below (wr.alloc (.cells #[.int .u8 kd,.int .u64 kk,.int .u64 (v : Int)] 175)).heap.size (wr.alloc (.cells #[.int .u8 kd,.int .u64 kk,.int .u64 (v : Int)] 175)) W -> Below w3.heap.size w3 W) := Lib.hid (fun W k => HKR.out.trans ((below_alloc k).mono HKR.out.size))
   have i1 : (i : Int) < (n : Int) := by omega
   have i0 : (0 : Int) <= (i : Int) := Int.natCast_nonneg i
   have hsum : tl + cl <= 5243040 := by omega
   clear hv hcl hcl2 htl hq e1 hk hll BL
   go_wp2_with fail
   with_reducible refine (CL.out _).mono ?_
   rintro e w4 ⟨rfl,k4⟩
   have K4 := Lib.hid (KA.out _ k4)
   clear k4 e2 e3 e4
   go_wp2_with fail
   go_roundw
   case rel => exact ⟨i + 1,by go_num,by omega,by rw [BT.out,List.length_append,HTL.out,HCL.out]; rfl,K4.out⟩
   case measure => simp [intOf]; omega
  ·obtain rfl : i = n := by omega
   have FIN : Hid ((bitsOf (NN.take i)).length = LB.length) := Lib.hid (by rw [List.take_of_length_le (by rw [HN.out]; exact Nat.le_refl _),LD.out])
   rw [FIN.out]
   have i1 : ¬ (i : Int) < (i : Int) := by omega
   clear hk
   go_wp2_with fail
   go_ret2
   exact ⟨rfl,K3.out.trans (HKR.out.mono K3.out.size)⟩

def WE (x : Nat → Nat) (d t u : Nat) (w : World) (wb : Nat) (l : Bits) (ks : List (Nat × Obj)) (W : World) : Prop :=
 ∃ x', Fr x x' (fun e => e = d \/ e = t \/ e = u) w W /\ WrC x' d W wb l /\ ∀ p ∈ ks,x' p.1 = u /\ W.heap[p.1]? = some p.2
theorem WE.start {x : Nat → Nat} {d t u : Nat} (hdu : d ≠ u) {w W : World} {wb : Nat} {l : Bits} (h : WrC x d w wb l) (k : Below w.heap.size w W) (ks : List (Nat × Obj)) (hk : ∀ p ∈ ks, w.heap.size ≤ p.1 ∧ W.heap[p.1]? = some p.2) : WE x d t u w wb l ks W := by
 have f2 : Fr x (paint x w.heap.size u) (fun e => e = u) w W := Fr.of_below k rfl
 exact ⟨_,f2.mono (fun c hc => .inr (.inr hc)),h.frame f2 hdu,fun p hp => ⟨paint_new (hk p hp).1,(hk p hp).2⟩⟩
theorem WE.row {x : Nat → Nat} {d t u : Nat} {w W : World} {wb : Nat} {l : Bits} {ks : List (Nat × Obj)} (h : WE x d t u w wb l ks W) {b : Nat} {o : Obj} (hm : (b, o) ∈ ks) : W.heap[b]? = some o := by
 obtain ⟨x', _,_,hk⟩ := h
 exact (hk _ hm).2
theorem WE.next {x : Nat → Nat} {d t u : Nat} (hdu : d ≠ u) {w W W' : World} {wb : Nat} {l : Bits} {ks : List (Nat × Obj)} (h : WE x d t u w wb l ks W) (k : Below W.heap.size W W') : WE x d t u w wb l ks W' := by
 obtain ⟨x', hf,hw,hk⟩ := h
 have f2 : Fr x' (paint x' W.heap.size u) (fun e => e = u) W W' := Fr.of_below k rfl
 refine ⟨_,hf.trans (f2.mono (fun c hc => .inr (.inr hc))),hw.frame f2 hdu,fun p hp => ?_⟩
 obtain ⟨h1,h2⟩ := hk p hp
 exact ⟨(paint_old (lt_of_block h2)).trans h1,(k.block _ (lt_of_block h2)).trans h2⟩
theorem WE.put {x : Nat → Nat} {d t u : Nat} (hdt : d ≠ t) (hdu : d ≠ u) (htu : t ≠ u) {w W : World} {wb : Nat} {l : Bits} {ks : List (Nat × Obj)} (h : WE x d t u w wb l ks W) (c : Cd) (hc : c.ok) (v : Nat) (hv : v ≤ c.most) (hl : l.length + (cb c v).length ≤ 134217728) :
  Calls Tryz.prog 96 #[.pointer (some ⟨wb,0,none⟩),cdV c,.int .u64 (v : Int)] W fun e w' => e = .returned (.int .i64 0) /\ WE x d t u w wb (l ++ cb c v) ks w' := by
 obtain ⟨x', hf,hw,hk⟩ := h
 refine (cput_any x' d t hdt c hc v hv W wb l hl hw).mono ?_
 rintro e w' ⟨rfl,x2,f2,h2⟩
 refine ⟨rfl,x2,hf.trans (f2.mono (fun c hc => by rcases hc with h | h; exact .inl h; exact .inr (.inl h))),h2,fun p hp => ?_⟩
 obtain ⟨h1,h3⟩ := hk p hp
 exact ⟨(f2.col _ (lt_of_block h3)).trans h1,(f2.old _ (lt_of_block h3) (by show ¬ (x' p.1 = d \/ x' p.1 = t); rw [h1]; rintro (e | e); exact hdu e.symm; exact htu e.symm)).trans h3⟩

set_option maxRecDepth 100000 in
set_option maxHeartbeats 6400000 in
theorem lenc_yes (x0 : Nat → Nat) (d t u : Nat) (hdt : d ≠ t) (hdu : d ≠ u) (htu : t ≠ u) (p : Pr) (x : Nat) (w : World) (hG : GL w) (wb : Nat) (l : Bits) (a : Option Addr) (succ : List Nat) (cap : Nat) (b : Option Addr) (ref : List Nat) (capb r : Nat) (hc : succ.length ≤ cap) (hcb : ref.length ≤ capb) (hm : MayN x succ ref r p) (hA : LV w a succ) (hB : LV w b ref)
  (hl : l.length + (lay x succ ref r p).length <= 134217728) (hW : WrC x0 d w wb l) :
  Calls Tryz.prog 59 #[.pointer (some ⟨wb,0,none⟩),.int .i64 (x : Int),.slice a succ.length cap,.slice b ref.length capb,.int .i64 (r : Int),parV (p.win : Int) (p.itv : Int) (p.zet : Int)] w fun e w' =>
   e = .returned (.int .i64 0) /\ ∃ x', Fr x0 x' (fun e => e = d \/ e = t \/ e = u) w w' /\ WrC x' d w' wb (l ++ lay x succ ref r p) := by
 have BI := Lib.hid (fun W (k : Below w.heap.size w W) => lbits_yes p x W (hG.below k) a succ cap b ref capb r hc hcb hm (hA.below k) (hB.below k))
 have NU := Lib.hid (fun W (k : Below w.heap.size w W) => numbers_any p x W (hG.below k) a succ cap b ref capb r hc hcb hm (hA.below k) (hB.below k))
 have LEN := Lib.hid (fun W (k : Below w.heap.size w W) => len_any (paint x0 w.heap.size u) d W wb l (hW.frame (Fr.of_below (c := u) (C := fun e => e = u) k rfl) hdu))
 have LL := Lib.hid (lay_len hm)
 obtain ⟨nok,nlen⟩ := nums_ok hm
 have NE := Lib.hid (nums_ne x succ ref r p)
 have LD : Hid (lay x succ ref r p = bitsOf (nums x succ ref r p)) := Lib.hid rfl
 generalize lay x succ ref r p = LB at BI LL LD hl ⊢
 generalize nums x succ ref r p = NN at NU nok nlen NE LD
 have NOK := Lib.hid nok
 obtain ⟨lb,hlb⟩ : ∃ k,LB.length = k := ⟨_,rfl⟩
 obtain ⟨ll,hll⟩ : ∃ k,l.length = k := ⟨_,rfl⟩
 rw [hlb] at BI hl
 rw [hll] at LEN hl
 have HLB := Lib.hid hlb
 have HLL := Lib.hid hll
 have HW := Lib.hid hW
 have D := Lib.hid (And.intro hdt (And.intro hdu htu))
 have i1 : ¬ (134217728 : Int) - (ll : Int) < (lb : Int) := by omega
 have i2 : IntKind.i64.wrap ((134217728 : Int) - (ll : Int)) = 134217728 - (ll : Int) := IntWalk.i64_in _ (by omega)
 unfold parV at BI NU ⊢
 clear hG hA hB hm nok hlb hll hW hdt hdu htu
 go_enter Tryz.func59,Tryz.ntmps59
 go_upto_region 1 with fail
 have r1 := heap_alloc_new w (.cells #[.int .i64 (p.win : Int),.int .i64 (p.itv : Int),.int .i64 (p.zet : Int)] 42)
 have kb : Below w.heap.size w (w.alloc (.cells #[.int .i64 (p.win : Int),.int .i64 (p.itv : Int),.int .i64 (p.zet : Int)] 42)) := (by repeat (first | exact Below.refl _ _ | refine below_drewN ?_ _ | refine Below.setCell ?_ (by simp; try omega) _ | refine Below.alloc ?_ (by simp; try omega) _))
 generalize w.alloc _ = W1 at r1 kb ⊢
 have c0 : W1.cell? ⟨w.heap.size,0,none⟩ = some (.int .i64 (p.win : Int)) := by rw [cell_of_row _ _ _ _ _ _ r1]; rfl
 have c1 : W1.cell? ⟨w.heap.size,1,none⟩ = some (.int .i64 (p.itv : Int)) := by rw [cell_of_row _ _ _ _ _ _ r1]; rfl
 have c2 : W1.cell? ⟨w.heap.size,2,none⟩ = some (.int .i64 (p.zet : Int)) := by rw [cell_of_row _ _ _ _ _ _ r1]; rfl
 have KB := Lib.hid kb
 have R1 := Lib.hid r1
 have hl1 := lt_of_block r1
 clear kb r1
 go_wp2_with fail
 with_reducible refine (BI.out _ KB.out).mono ?_
 rintro e w2 ⟨rfl,k2⟩
 have K2 := Lib.hid (KB.out.trans (k2.mono KB.out.size))
 have r2 := (k2.block _ hl1).trans R1.out
 clear c0 c1 c2 k2
 have c0 : w2.cell? ⟨w.heap.size,0,none⟩ = some (.int .i64 (p.win : Int)) := by rw [cell_of_row _ _ _ _ _ _ r2]; rfl
 have c1 : w2.cell? ⟨w.heap.size,1,none⟩ = some (.int .i64 (p.itv : Int)) := by rw [cell_of_row _ _ _ _ _ _ r2]; rfl
 have c2 : w2.cell? ⟨w.heap.size,2,none⟩ = some (.int .i64 (p.zet : Int)) := by rw [cell_of_row _ _ _ _ _ _ r2]; rfl
 clear r2
 go_wp2_with fail
 with_reducible refine (LEN.out _ K2.out).mono ?_
 rintro e w3 ⟨rfl,rfl⟩
 go_wp2_with fail
 with_reducible refine (NU.out _ K2.out).mono ?_
 rintro e w3 hN
 obtain ⟨g,cg,cur,rfl,hg1,hg2,hk,CC⟩ := hN.lies NE.out
 have hk2 := K2.out
 have W0 := Lib.hid (WE.start (t := t) D.out.2.1 HW.out (hk2.trans (hk.mono hk2.size)) [(g,.cells cur 175 (0,0))] (fun q hq => by
  rcases List.mem_cons.1 hq with rfl | hq
  ·exact ⟨Nat.le_trans hk2.size hg1,hg2⟩
  ·cases hq))
 have CC := Lib.hid CC
 clear hN hg1 hg2 hk hk2 c0 c1 c2 i1 i2
 obtain ⟨n,hn⟩ : ∃ n,NN.length = n := ⟨_,rfl⟩
 have HN := Lib.hid hn
 rw [hn] at nlen ⊢
 clear hn
 go_wp2_with fail
 go_loopw [45] (fun vi wr => ∃ i : Nat,vi = .int .i64 (i : Int) /\ i <= n /\ WE x0 d t u w wb (l ++ bitsOf (NN.take i)) [(g,.cells cur 175 (0,0))] wr) (fun vi _ => n - (intOf vi).toNat)
 case atStart => exact ⟨0,rfl,Nat.zero_le _,by simpa [bitsOf] using W0.out⟩
 case round =>
  obtain ⟨i,rfl,hi,hE⟩ := hrel
  have HE := Lib.hid hE
  clear hE
  by_cases hlt : i < n
  ·have hin : i < NN.length := by rw [HN.out]; exact hlt
   obtain ⟨kd,kk,e1,e2,e3,e4⟩ := CC.out wr (HE.out.row (List.mem_cons_self ..)) i hin
   have hq := NOK.out _ (List.getElem_mem hin)
   have BT := Lib.hid (bitsOf_take NN i hin)
   have BL := bits_take_le NN (i + 1)
   rw [BT.out] at BL
   rw [<- LD.out,HLB.out,List.length_append] at BL
   have h6 := HE.out.next (u := u) D.out.2.1 ((Below.refl wr.heap.size wr).alloc (Nat.le_refl _) (.cells #[.int .u8 kd,.int .u64 kk,.int .u64 (NN[i].2 : Int)] 175))
   have PU := Lib.hid (h6.put D.out.1 D.out.2.1 D.out.2.2 NN[i].1 hq.1 NN[i].2 hq.most (by rw [List.length_append,HLL.out]; omega))
   rw [e1,List.append_assoc,<- BT.out] at PU
   obtain ⟨v,hv⟩ : ∃ v,NN[i].2 = v := ⟨_,rfl⟩
   rw [hv] at e4 PU
   have i1 : (i : Int) < (n : Int) := by omega
   have i0 : (0 : Int) <= (i : Int) := Int.natCast_nonneg i
   clear hv hq e1 BL h6
   go_wp2_with fail
   with_reducible refine PU.out.mono ?_
   rintro e w4 ⟨rfl,h4⟩
   have H4 := Lib.hid h4
   clear h4 e2 e3 e4
   go_wp2_with fail
   go_roundw
   case rel => exact ⟨i + 1,by go_num,by omega,H4.out⟩
   case measure => simp [intOf]; omega
  ·obtain rfl : i = n := by omega
   have FIN : Hid (l ++ bitsOf (NN.take i) = l ++ LB) := Lib.hid (by rw [List.take_of_length_le (by rw [HN.out]; exact Nat.le_refl _),LD.out])
   have i1 : ¬ (i : Int) < (i : Int) := by omega
   go_wp2_with fail
   go_ret
   obtain ⟨x', h1,h2,_⟩ := HE.out
   rw [FIN.out] at h2
   exact ⟨rfl,x', h1,h2⟩

end Go.Proofs.YtflnpcgnenhogaaGreatDoor.ls
