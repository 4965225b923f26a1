/- Own lemmas, laid together. -/
import Derived.Test.YtflnpcgnenhogaaGreatDoorBd12
import Derived.Test.YtflnpcgnenhogaaGreatDoorBd1
import Derived.BigQuiet
import Derived.BigRegion
import Derived.Deep.CutRange
import Derived.Deep.Upon
import Derived.Laws.IdiomStrings
import Derived.IntWalk
import Derived.StillTailTactics
import Derived.Maps.AppendAt
import Derived.Laws.BitsLemmas
import Derived.Laws.Bits64
import Derived.Lib.Hide
namespace Go.Proofs.YtflnpcgnenhogaaGreatDoor.bit
open Go.RowKit Go.Proofs.YtflnpcgnenhogaaGreatDoor.own

theorem Tryz.infoByte : (Tryz.prog.info? 5).map (fun i => (i.zero, i.size, i.bytes)) = some (some (.int .u8 0), 1, 1) := by kernel_rfl
def nvs (l : List Nat) : List Value := l.map fun (c : Nat) => Value.int .u8 (c : Int)

def WrC (x : Nat → Nat) (c : Nat) (w : World) (wb : Nat) (l : Bits) : Prop :=
 ∃ v,w.heap[wb]? = some (.cells #[v,.int .i64 (l.length : Int)] 171 (0,0)) /\ x wb = c /\ w.ownsRow 0 5 1 v (packN l).length (nvs (packN l)) /\
  (∀ g,v.ownBlock = some g -> x g = c /\ g ≠ wb) /\ l.length <= 134217728

theorem WrC.frame {x x' : Nat → Nat} {C : Nat → Prop} {c : Nat} {w w' : World} {wb : Nat} {l : Bits} (h : WrC x c w wb l) (hf : Fr x x' C w w') (hC : ¬ C c) : WrC x' c w' wb l := by
 obtain ⟨v,h0,hx,ho,hg,hl⟩ := h
 have hlt := lt_of_block h0
 refine ⟨v,(hf.old wb hlt (by rw [hx]; exact hC)).trans h0,by rw [hf.col wb hlt]; exact hx,⟨ho.1,?_⟩,fun g e => ?_,hl⟩
 ·rcases ho.2 with h2 | ⟨g,cap,cur,hv,hb,hcell,r⟩
  ·exact .inl h2
  ·have he : v.ownBlock = some g := by rw [hv]; rfl
   exact .inr ⟨g,cap,cur,hv,hb,(hf.old g (lt_of_block hcell) (by rw [(hg g he).1]; exact hC)).trans hcell,r⟩
 ·have := ho.lt g e
  exact ⟨by rw [hf.col g this.2]; exact (hg g e).1,(hg g e).2⟩

theorem new_any (x : Nat → Nat) (c : Nat) (w : World) :
  Calls Tryz.prog 58 #[] w fun e w' => ∃ wb x', e = .returned (.pointer (some ⟨wb,0,none⟩)) /\ Fr x x' (fun e => e = c) w w' /\ WrC x' c w' wb [] /\ w.heap.size <= wb /\ Below w.heap.size w w' := by
 go_enter Tryz.func58,Tryz.ntmps58
 go_wp2_with fail
 go_ret
 have hb : Below w.heap.size w (w.alloc (.cells #[.slice none 0 0,.int .i64 0] 171)) := (Below.refl _ _).alloc (Nat.le_refl _) _
 exact ⟨w.heap.size,paint x w.heap.size c,rfl,Fr.of_below hb rfl,⟨_,heap_alloc_new w _,paint_new (Nat.le_refl _),by rw [packN_nil]; exact World.ownsRow_nil _ _ _ _,fun g hg => (by cases hg),Nat.zero_le _⟩,Nat.le_refl _,hb⟩

theorem len_any (x : Nat → Nat) (c : Nat) (w : World) (wb : Nat) (l : Bits) (h : WrC x c w wb l) :
  Calls Tryz.prog 61 #[.pointer (some ⟨wb,0,none⟩)] w fun e w' => e = .returned (.int .i64 (l.length : Int)) /\ w = w' := by
 obtain ⟨v,h0,-⟩ := h
 have hc : w.cell? ⟨wb,1,none⟩ = some (.int .i64 (l.length : Int)) := by rw [cell_of_row w wb _ _ _ _ h0]; rfl
 clear h0
 go_enter Tryz.func61,Tryz.ntmps61
 go_wp2_with fail
 go_ret
 exact ⟨rfl,rfl⟩

theorem fits_any (v n : Nat) (w : World) :
  Calls Tryz.prog 141 #[.int .u64 (v : Int),.int .i64 (n : Int)] w fun e w' => e = .returned (.bool (decide (64 <= n \/ v < 2 ^ n))) /\ w = w' := by
 by_cases h : 64 <= n
 ·have R : Hid (decide (64 <= n \/ v < 2 ^ n) = true) := Lib.hid (decide_eq_true (.inl h))
  have h1 : (64 : Int) <= (n : Int) := by omega
  clear h
  go_enter Tryz.func141,Tryz.ntmps141
  go_wp2_with fail
  go_ret
  exact ⟨by rw [R.out]; rfl,rfl⟩
 ·have R : Hid (((v : Int) / 2 ^ n == 0) = decide (64 <= n \/ v < 2 ^ n)) := Lib.hid (by
   have e : ((v : Int) / 2 ^ n) = ((v / 2 ^ n : Nat) : Int) := by simp
   rw [e]
   by_cases hlt : v < 2 ^ n
   ·rw [decide_eq_true (.inr hlt),Nat.div_eq_of_lt hlt]; rfl
   ·have : 0 < v / 2 ^ n := Nat.div_pos (by omega) (Nat.pow_pos (by decide))
    rw [decide_eq_false (by omega)]
    exact beq_eq_false_iff_ne.2 (by omega))
  have h1 : (n : Int) < 64 := by omega
  have h2 : decide ((64 : Int) <= (n : Int)) = false := decide_eq_false (by omega)
  clear h
  go_enter Tryz.func141,Tryz.ntmps141
  go_wp2_with fail
  go_ret
  exact ⟨by rw [<- R.out]; first | rfl | simp [h2],rfl⟩

def WrP (x : Nat → Nat) (c : Nat) (w : World) (wb : Nat) (l : Bits) (v : Value) : Prop :=
 w.heap[wb]? = some (.cells #[v,.int .i64 (l.length : Int)] 171 (0,0)) /\ x wb = c /\ w.ownsRow 0 5 1 v (padded l).length (nvs (padded l)) /\ (∀ g,v.ownBlock = some g -> x g = c /\ g ≠ wb)

theorem wraps_i64_63 (n : Int) (h₀ : 0 ≤ n) (h₁ : n < 2 ^ 63) : IntKind.i64.wrap n = n := IntWalk.i64_in _ (by omega)
theorem wraps_u64_64 (n : Int) (h₀ : 0 ≤ n) (h₁ : n < 2 ^ 64) : IntKind.u64.wrap n = n := by rw [IntKind.wrap_u64]; omega
theorem and7 (n : Nat) (h : n < 9223372036854775808) : bits .and .i64 (n : Int) 7 = ((n % 8 : Nat) : Int) := by
 have h1 := (bits_nat .i64 63 (by decide) wraps_i64_63 n 7 (by omega) (by decide)).1
 rw [show n &&& 7 = n % 8 from Nat.and_two_pow_sub_one_eq_mod n 3] at h1
 exact h1
theorem or8 (a b : Nat) (ha : a < 256) (hb : b < 256) : bits .or .u8 (a : Int) (b : Int) = ((a ||| b : Nat) : Int) := (bits_nat .u8 8 (by decide) wraps_u8 a b ha hb).2
theorem and64 (a t : Nat) (ha : a < 18446744073709551616) (ht : t ≤ 63) : bits .and .u64 (a : Int) (2 ^ t - 1) = ((a % 2 ^ t : Nat) : Int) := by
 have h1 := bits_mask .u64 64 (by decide) wraps_u64_64 t (by omega) (a : Int) (by omega) (by omega)
 rw [h1]
 simp

theorem row_append {x : Nat → Nat} {c : Nat} {w w2 : World} {wb n : Nat} {vw v2 u : Value} {o : Obj} {ys : List Value} (g0 : w.heap[wb]? = some (.cells #[vw, u] 171 (0, 0))) (gx : x wb = c)
  (gg : ∀ g,vw.ownBlock = some g -> x g = c /\ g ≠ wb) (hown : w2.ownsRow 0 5 1 v2 n ys) (hg : (w.alloc o).grownBy w2 vw.ownBlock) (hw : v2.ownBlock = vw.ownBlock \/ v2.ownBlock = some (w.heap.size + 1)) :
  ∃ x2,Fr x x2 (fun e => e = c) w (w2.setCell ⟨wb,0,none⟩ v2) /\ (w2.setCell ⟨wb,0,none⟩ v2).heap[wb]? = some (.cells #[v2,u] 171 (0,0)) /\ x2 wb = c /\ (w2.setCell ⟨wb,0,none⟩ v2).ownsRow 0 5 1 v2 n ys /\ ∀ g,v2.ownBlock = some g -> x2 g = c /\ g ≠ wb := by
 have hlt := lt_of_block g0
 have kp : Keeps w w2 (fun b => vw.ownBlock = some b) := ((Keeps.refl w _).alloc o).grown hg (fun k hk => .inl hk)
 have kq : Keeps w (w2.setCell ⟨wb,0,none⟩ v2) (fun b => vw.ownBlock = some b \/ b = wb) :=
  Keeps.setCell (S := fun b => vw.ownBlock = some b \/ b = wb) ⟨kp.os,kp.tape,kp.output,kp.size,fun b hb hS => kp.block b hb (fun h => hS (.inl h))⟩ (.inl (.inr rfl)) v2
 have hwb : w2.heap[wb]? = some (.cells #[vw,u] 171 (0,0)) := (kp.block wb hlt (fun h => (gg wb h).2 rfl)).trans g0
 have hne : ∀ g,v2.ownBlock = some g -> g ≠ wb := fun g hg2 => by
  rcases hw with e | e
  ·exact (gg g (e ▸ hg2)).2
  ·rw [e] at hg2; injection hg2 with hg2; omega
 refine ⟨paint x w.heap.size c,kq.fr rfl (fun b _ hS => ?_),?_,by rw [paint_old hlt]; exact gx,⟨hown.1,?_⟩,fun g hg2 => ⟨?_,hne g hg2⟩⟩
 ·rcases hS with h | h
  ·exact (gg b h).1
  ·rw [h]; exact gx
 ·rw [heap_setCell_same w2 wb 0 _ _ _ hwb]
  rfl
 ·rcases hown.2 with h2 | ⟨g,cap,cur,hv,hb,hcell,r⟩
  ·exact .inl h2
  ·exact .inr ⟨g,cap,cur,hv,hb,(Below.heap_setCell w2 _ _ g (hne g (by rw [hv]; rfl))).trans hcell,r⟩
 ·rcases hw with e | e
  ·have h2 := e ▸ hg2
   have h3 := gg g h2
   by_cases hgl : g < w.heap.size
   ·rw [paint_old hgl]; exact h3.1
   ·rw [paint_new (by omega)]
  ·rw [e] at hg2; injection hg2 with hg2
   rw [paint_new (by omega)]

theorem padded_pos (l : Bits) : 0 < (padded l).length := by
 unfold padded
 split
 ·simp
 ·rename_i h
  rw [packN_length]
  omega
theorem WrP.shape {x : Nat → Nat} {c : Nat} {w : World} {wb : Nat} {l : Bits} {v : Value} (h : WrP x c w wb l v) : ∃ g n cap, v = .slice (some ⟨g, 0, none⟩) n cap := by
 obtain ⟨_,_,ho,_⟩ := h
 rcases ho.2 with ⟨_,h0⟩ | ⟨g,cap,cur,hv,_⟩
 ·have := padded_pos l; omega
 ·exact ⟨g,_,cap,hv⟩
theorem WrP.last {x : Nat → Nat} {c : Nat} {w : World} {wb : Nat} {l y : Bits} {g n cap : Nat} (h : WrP x c w wb l (.slice (some ⟨g, 0, none⟩) n cap)) (hy : 0 < y.length) (h8 : y.length ≤ 8 - l.length % 8) (hmax : (l ++ y).length ≤ 134217728) :
  ∃ b,b < 256 /\ n = l.length / 8 + 1 /\ w.cell? ⟨g,l.length / 8,none⟩ = some (.int .u8 (b : Nat)) /\ (∀ j,w.frozen? ⟨g,j,none⟩ = false) /\ x g = c /\ g ≠ wb /\
   ∀ k : Int,k = (((l ++ y).length : Nat) : Int) -> Fr x x (fun e => e = c) w ((w.setCell ⟨g,l.length / 8,none⟩ (.int .u8 ((b ||| num y <<< (8 - l.length % 8 - y.length) : Nat) : Int))).setCell ⟨wb,1,none⟩ (.int .i64 k)) /\
    WrC x c ((w.setCell ⟨g,l.length / 8,none⟩ (.int .u8 ((b ||| num y <<< (8 - l.length % 8 - y.length) : Nat) : Int))).setCell ⟨wb,1,none⟩ (.int .i64 k)) wb (l ++ y) := by
 obtain ⟨h0,hx,ho,hg⟩ := h
 obtain ⟨H,b,e1,hb,e2,e3⟩ := padded_step l y hy h8
 obtain ⟨hgc,hgw⟩ := hg g rfl
 have hn : n = (padded l).length := by
  rcases ho.2 with ⟨hv,_⟩ | ⟨_,_,_,hv,_⟩
  ·cases hv
  ·exact (Value.slice.inj hv).2.1
 have hn2 : n = l.length / 8 + 1 := by rw [hn,e1,List.length_append,e3]; rfl
 rw [hn] at ho
 have hc := ho.cellAt (l.length / 8) (by rw [<- hn]; omega)
 rw [hn] at h0
 refine ⟨b,hb,hn2,?_,ho.frozenAt,hgc,hgw,fun k hk => ⟨Fr.same rfl rfl rfl (by simp) (fun d _ hd => ?_),?_⟩⟩
 ·rw [hc,e1,<- e3]
  simp [nvs]
 ·rw [Below.heap_setCell _ _ _ _ (show d ≠ wb from fun e => hd (by rw [e]; exact hx)),Below.heap_setCell _ _ _ _ (show d ≠ g from fun e => hd (by rw [e]; exact hgc))]
 ·obtain ⟨ho2,_⟩ := ho.stored (l.length / 8) (.int .u8 ((b ||| num y <<< (8 - l.length % 8 - y.length) : Nat) : Int))
  refine ⟨.slice (some ⟨g,0,none⟩) n cap,?_,hx,?_,fun d hd => ?_,hmax⟩
  ·rw [heap_setCell_same _ wb 1 _ _ _ ((Below.heap_setCell _ _ _ _ (Ne.symm hgw)).trans h0),hk,hn]
   rfl
  ·have hll : (packN (l ++ y)).length = (padded l).length := by rw [e2,e1]; simp
   rw [hll,e2,<- hn]
   rw [<- hn] at ho2
   have hset : (nvs (padded l)).set (l.length / 8) (.int .u8 ((b ||| num y <<< (8 - l.length % 8 - y.length) : Nat) : Int)) = nvs (H ++ [b ||| num y <<< (8 - l.length % 8 - y.length)]) := by
    rw [e1,<- e3]
    simp [nvs]
   rw [hset] at ho2
   refine ⟨ho2.1,?_⟩
   rcases ho2.2 with h2 | ⟨g', cap', cur,hv,hb', hcell,r⟩
   ·exact .inl h2
   ·have : g' = g := by
     have := (Value.slice.inj hv).1
     injection this with this
     exact (congrArg Addr.block this).symm
    subst this
    exact .inr ⟨g', cap', cur,hv,hb', (Below.heap_setCell _ _ _ _ hgw).trans hcell,r⟩
  ·injection hd with hd
   subst hd
   exact ⟨hgc,hgw⟩

set_option maxRecDepth 100000 in
set_option maxHeartbeats 6400000 in
theorem put_any (x : Nat → Nat) (c : Nat) (w : World) (wb : Nat) (l : Bits) (v n : Nat) (hv : v < 2 ^ n) (hn : n ≤ 64) (hl : l.length + n ≤ 134217728) (h : WrC x c w wb l) :
  Calls Tryz.prog 99 #[.pointer (some ⟨wb,0,none⟩),.int .u64 (v : Int),.int .i64 (n : Int)] w fun e w' => e = .returned (.tuple #[]) /\ ∃ x', Fr x x' (fun e => e = c) w w' /\ WrC x' c w' wb (l ++ ofN n v) := by
 obtain ⟨i0,hi,hz0,hz1,hz2⟩ := info_parts Tryz.infoByte
 have H := Lib.hid h
 have HV := Lib.hid hv
 clear h hv
 go_enter Tryz.func99,Tryz.ntmps99
 go_wp2_with fail
 go_loopw [2] (fun i wr => ∃ m : Nat,i = .int .i64 m /\ m <= n /\ ∃ x', Fr x x' (fun e => e = c) w wr /\ WrC x' c wr wb (l ++ ofN (n - m) (v / 2 ^ m))) (fun i _ => (intOf i).toNat)
 case atStart => exact ⟨n,rfl,Nat.le_refl _,x,Fr.refl _ _ _,by rw [Nat.sub_self]; show WrC x c w wb (l ++ []); rw [List.append_nil]; exact H.out⟩
 case round =>
  obtain ⟨m,rfl,hm,xr,hf,hW⟩ := hrel
  have HF := Lib.hid hf
  clear hf
  by_cases h0 : 0 < m
  ·obtain ⟨L,hL⟩ : ∃ L,l ++ ofN (n - m) (v / 2 ^ m) = L := ⟨_,rfl⟩
   have HL := Lib.hid hL
   have hlen : L.length = l.length + (n - m) := by rw [<- hL,List.length_append,ofN_length]
   rw [hL] at hW
   clear hL
   obtain ⟨vw,g0,gx,go,gg,gl⟩ := hW
   have c0 : wr.cell? ⟨wb,0,none⟩ = some vw := by rw [cell_of_row wr wb _ _ _ _ g0]; rfl
   have c1 : wr.cell? ⟨wb,1,none⟩ = some (.int .i64 (L.length : Int)) := by rw [cell_of_row wr wb _ _ _ _ g0]; rfl
   have cf : ∀ j,wr.frozen? ⟨wb,j,none⟩ = false := fun j => frozen_of_row wr wb j _ _ g0
   have G0 := Lib.hid g0
   have GO := Lib.hid go
   have GG := Lib.hid gg
   obtain ⟨ll,hll⟩ : ∃ k,L.length = k := ⟨_,rfl⟩
   rw [hll] at c1 hlen
   have hlb : ll + m <= 134217728 := by omega
   have HLEN := Lib.hid hlen
   have HLL := Lib.hid hll
   obtain ⟨r,hr⟩ : ∃ r,ll % 8 = r := ⟨_,rfl⟩
   have ha7 := and7 ll (by omega)
   rw [hr] at ha7
   have hr8 : r < 8 := by omega
   have HR := Lib.hid hr
   clear g0 go gg hlen hr gl
   go_upto_if 16 with fail
   go_cut [] from 17 to 25 (fun wc => ∃ x2 v2,Fr xr x2 (fun e => e = c) wr wc /\ WrP x2 c wc wb L v2)
   case first => as_aux_lemma =>
    by_cases hz : r = 0
    ·subst hz
     have hpl : (packN L).length <= 134217728 := by rw [packN_length,HLL.out]; omega
     have PD : Hid (padded L = packN L ++ [0]) := Lib.hid (by unfold padded; rw [if_pos (by rw [HLL.out]; exact HR.out)])
     have GA := Lib.hid (GO.out.alloc (.cells #[.int .u8 0] 5))
     have hc3 : (packN L).length + 1 <= maxLen := by simp only [maxLen]; omega
     have hc4 : ((packN L).length + 1) * 1 <= 140737488355328 := by omega
     have hc2 : ∀ u ∈ [Value.int .u8 0],u.oneCell' = true := by intro u hu; simp at hu; subst hu; rfl
     go_wp2_with (at_builtin; refine wpList_append_at _ rfl _ _ 139 rfl 0 5 i0 _ 1 1 Tryz.underlying139 hi hz0 hz1 hz2 rfl (by decide) vw (packN L).length _ rfl GA.out ⟨wr.heap.size,0,none⟩ 1 1 [.int .u8 0] rfl rfl ?c1 ?c2 ?c3 ?c4 ?c5 ?c6 ?_)
     try case c1 => exact cell_one_new _ _ _
     try case c2 => exact hc2
     try case c3 => exact hc3
     try case c4 => exact hc4
     try case c5 => exact Nat.zero_le _
     try case c6 => omega
     intro v2 w2 hown hg hw
     obtain ⟨a2,k2,rfl⟩ := own_shape hown
     obtain ⟨x2,r1,r2,r3,r4,r5⟩ := row_append G0.out gx GG.out hown hg hw
     have hb2 : w2.heap[wb]? = wr.heap[wb]? := by
      rw [hg.block wb (by have := lt_of_block G0.out; simp; omega) (fun e => (GG.out wb e.symm).2 rfl),Below.heap_alloc _ _ _ (lt_of_block G0.out)]
     have c0' : w2.cell? ⟨wb,0,none⟩ = some vw := by rw [cell_of_row w2 wb _ _ _ _ (hb2.trans G0.out)]; rfl
     have cf' : ∀ j,w2.frozen? ⟨wb,j,none⟩ = false := fun j => frozen_of_row w2 wb j _ _ (hb2.trans G0.out)
     have RR : Hid (Fr xr x2 (fun e => e = c) wr (w2.setCell ⟨wb,0,none⟩ (.slice a2 ((packN L).length + 1) k2)) /\ WrP x2 c (w2.setCell ⟨wb,0,none⟩ (.slice a2 ((packN L).length + 1) k2)) wb L (.slice a2 ((packN L).length + 1) k2)) := Lib.hid ⟨r1,r2,r3,by rw [PD.out]; simpa [nvs] using r4,r5⟩
     clear r1 r2 r3 r4 r5 hown hg hw hb2
     go_wp2_with fail
     go_meet
     case rel => exact ⟨x2,_,RR.out.1,RR.out.2⟩
    ·have hzb : ((r : Int) == 0) = false := beq_eq_false_iff_ne.2 (by omega)
     have RR : Hid (WrP xr c wr wb L vw) := Lib.hid ⟨G0.out,gx,by unfold padded; rw [if_neg (by rw [HLL.out,HR.out]; exact hz)]; exact GO.out,GG.out⟩
     clear hz
     go_wp2_with fail
     go_meet
     case rel => exact ⟨xr,vw,Fr.refl _ _ _,RR.out⟩
   case rest => as_aux_lemma =>
    obtain ⟨x2,v2,f2,hP⟩ := hcut
    have F2 := Lib.hid (HF.out.trans f2)
    clear f2 c0 c1 cf G0 GO GG HF
    generalize wc = W2 at hP F2 ⊢
    obtain ⟨g,n2,cap,rfl⟩ := hP.shape
    obtain ⟨t,ht⟩ : ∃ t : Nat,t = min m (8 - r) := ⟨_,rfl⟩
    have ht0 : 0 < t := by omega
    have htm : t <= m := by omega
    have htr : t <= 8 - r := by omega
    have hmin : (if 8 - (r : Int) < (m : Int) then 8 - (r : Int) else (m : Int)) = (t : Int) := by split <;> omega
    have hyl : (ofN t (v / 2 ^ (m - t))).length = t := ofN_length _ _
    have hrL : L.length % 8 = r := by rw [HLL.out]; exact HR.out
    obtain ⟨b,hb,hn2,hcb,hfb,hgc,hgw,hK⟩ := hP.last (y := ofN t (v / 2 ^ (m - t))) (by rw [hyl]; exact ht0) (by rw [hyl,hrL]; exact htr) (by rw [List.length_append,hyl,HLL.out]; omega)
    rw [hyl,hrL,num_ofN,HLL.out] at hK
    rw [HLL.out] at hn2 hcb
    obtain ⟨q,hq⟩ : ∃ q,ll / 8 = q := ⟨_,rfl⟩
    rw [hq] at hn2 hcb hK
    have hqb : q <= 16777216 := by omega
    have c1 : W2.cell? ⟨wb,1,none⟩ = some (.int .i64 (ll : Int)) := by rw [cell_of_row W2 wb _ _ _ _ hP.1,HLL.out]; rfl
    have c0 : W2.cell? ⟨wb,0,none⟩ = some (.slice (some ⟨g,0,none⟩) n2 cap) := by rw [cell_of_row W2 wb _ _ _ _ hP.1]; rfl
    have cf : ∀ j,W2.frozen? ⟨wb,j,none⟩ = false := fun j => frozen_of_row W2 wb j _ _ hP.1
    have HK := Lib.hid hK
    have HT := Lib.hid ht
    have HP := Lib.hid hP
    clear hK hP ht hyl hrL
    go_upto_region 5 with fail
    have hw1 : IntKind.i64.wrap ((m : Int) - (t : Int)) = ((m - t : Nat) : Int) := by rw [IntWalk.i64_in _ (by omega)]; omega
    obtain ⟨u,hu⟩ : ∃ u : Nat,u = v / 2 ^ (m - t) := ⟨_,rfl⟩
    obtain ⟨pc,hpc⟩ : ∃ pc : Nat,pc = u % 2 ^ t := ⟨_,rfl⟩
    have hp2 : (2 : Nat) ^ t <= 2 ^ 8 := Nat.pow_le_pow_right (by decide) (by omega)
    have hpos : 0 < (2 : Nat) ^ t := Nat.pow_pos (by decide)
    have hpl : pc < 2 ^ t := by rw [hpc]; exact Nat.mod_lt _ hpos
    have hpt : ((2 : Int) ^ t) = ((2 ^ t : Nat) : Int) := by simp
    have hv64 : v < 18446744073709551616 := Nat.lt_of_lt_of_le HV.out (by
     calc (2 : Nat) ^ n <= 2 ^ 64 := Nat.pow_le_pow_right (by decide) hn
      _ = 18446744073709551616 := by decide)
    have hul : u < 18446744073709551616 := by rw [hu]; exact Nat.lt_of_le_of_lt (Nat.div_le_self _ _) hv64
    have hbits : bits BinOp.and IntKind.u64 ((v : Int) / 2 ^ (m - t)) (IntKind.u64.wrap (IntKind.u64.wrap (2 ^ t) - 1)) = (pc : Int) := by
     rw [show ((v : Int) / 2 ^ (m - t)) = (u : Int) by rw [hu]; simp,IntKind.wrap_u64,IntKind.wrap_u64]
     rw [show ((2 : Int) ^ t % 18446744073709551616 - 1) % 18446744073709551616 = 2 ^ t - 1 by rw [hpt]; omega,and64 u t hul (by omega),hpc]
    have hmod : (pc : Int) % 256 = (pc : Int) := by omega
    rw [<- hu,<- hpc] at HK
    have HU := Lib.hid hu
    have HPC := Lib.hid hpl
    have HP2 := Lib.hid hp2
    clear hu hpc hp2 hpos hpl hpt hv64 hul
    go_quiet (fail)
    clear hbits hmod hw1
    go_upto_region 6 with fail
    have hsh : pc * 2 ^ (8 - r - t) < 256 := by
     calc pc * 2 ^ (8 - r - t) < 2 ^ t * 2 ^ (8 - r - t) := Nat.mul_lt_mul_of_pos_right HPC.out (Nat.pow_pos (by decide))
      _ = 2 ^ (8 - r) := by rw [<- Nat.pow_add]; congr 1; omega
      _ <= 2 ^ 8 := Nat.pow_le_pow_right (by decide) (by omega)
    obtain ⟨z,hz⟩ : ∃ z,z = pc * 2 ^ (8 - r - t) := ⟨_,rfl⟩
    rw [<- hz] at hsh
    have hor := or8 b z hb hsh
    have hi0 : (0 : Int) <= (q : Int) := by omega
    have hi1 : (q : Int) < (n2 : Int) := by omega
    have hw2 : IntKind.i64.wrap ((n2 : Int) - 1) = (q : Int) := by rw [IntWalk.i64_in _ (by omega)]; omega
    have HN2 := Lib.hid hn2
    have HQ := Lib.hid hq
    have hw3 : IntKind.i64.wrap (8 - (r : Int) - (t : Int)) = ((8 - r - t : Nat) : Int) := by rw [IntWalk.i64_in _ (by omega)]; omega
    have HZ := Lib.hid hz
    generalize hW4 : ({ W2.drewN nq with drawn := (W2.drewN nq).drawn + 1 } : World) = W4
    have d0 : W4.cell? ⟨wb,0,none⟩ = some (.slice (some ⟨g,0,none⟩) n2 cap) := by rw [<- hW4]; exact c0
    have d1 : W4.cell? ⟨wb,1,none⟩ = some (.int .i64 (ll : Int)) := by rw [<- hW4]; exact c1
    have d2 : W4.cell? ⟨g,q,none⟩ = some (.int .u8 (b : Int)) := by rw [<- hW4]; exact hcb
    have d3 : ∀ j,W4.frozen? ⟨g,j,none⟩ = false := by rw [<- hW4]; exact hfb
    have d4 : ∀ j,W4.frozen? ⟨wb,j,none⟩ = false := by rw [<- hW4]; exact cf
    refine wp_region_still_tail 19 (by kernel_rfl) (by kernel_rfl) ?_
    simp only [List.take_succ_cons,List.take_zero,List.drop_succ_cons,List.drop_zero]
    have hsl : IntKind.u8.wrap ((pc : Int) * 2 ^ (8 - r - t)) = (z : Int) := by
     rw [IntKind.wrap_u8,show ((pc : Int) * 2 ^ (8 - r - t)) = (z : Int) by rw [hz]; simp]
     omega
    have HW4 := Lib.hid hW4
    rw [hW4]
    clear hn2 hq hW4 hz
    repeat still_step
    refine wpStill_nil ?_
    have hgw2 : wb ≠ g := Ne.symm hgw
    have hsum : IntKind.i64.wrap ((ll : Int) + (t : Int)) = (ll : Int) + (t : Int) := IntWalk.i64_in _ (by omega)
    have DONE : Hid (Fr x x2 (fun e => e = c) w ((W4.setCell ⟨g,q,none⟩ (.int .u8 ((b ||| z : Nat) : Int))).setCell ⟨wb,1,none⟩ (.int .i64 ((ll : Int) + (t : Int)))) /\
      WrC x2 c ((W4.setCell ⟨g,q,none⟩ (.int .u8 ((b ||| z : Nat) : Int))).setCell ⟨wb,1,none⟩ (.int .i64 ((ll : Int) + (t : Int)))) wb (l ++ ofN (n - (m - t)) (v / 2 ^ (m - t)))) := Lib.hid (by
     have hk := HK.out ((ll : Int) + (t : Int)) (by rw [List.length_append,ofN_length,HLL.out]; omega)
     rw [Nat.shiftLeft_eq,<- HZ.out] at hk
     rw [<- HW4.out]
     have e : l ++ ofN (n - (m - t)) (v / 2 ^ (m - t)) = L ++ ofN t u := by
      rw [<- HL.out,List.append_assoc,HU.out,ofN_more _ _ _ _ htm]
      congr 2
      omega
     rw [e]
     exact ⟨F2.out.trans ⟨hk.1.os,hk.1.tape,hk.1.output,hk.1.size,hk.1.col,hk.1.new,hk.1.old⟩,hk.2⟩)
    clear hw2 hw3 hsl hor hfb hcb c0 c1 cf
    go_wp2_with fail
    go_roundw
    case rel => exact ⟨m - t,by go_num,by omega,x2,DONE.out.1,DONE.out.2⟩
    case measure => simp [intOf]; omega
  ·have hm0 : m = 0 := by omega
   subst hm0
   rw [Nat.sub_zero,Nat.pow_zero,Nat.div_one] at hW
   have HW := Lib.hid hW
   clear hW
   go_wp2_with fail
   go_end0
   exact ⟨rfl,xr,HF.out,HW.out⟩
end Go.Proofs.YtflnpcgnenhogaaGreatDoor.bit
