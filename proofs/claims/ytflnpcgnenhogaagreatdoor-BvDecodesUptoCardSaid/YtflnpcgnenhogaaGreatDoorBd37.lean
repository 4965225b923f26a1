/- Own lemmas, laid together. -/
import Derived.Test.YtflnpcgnenhogaaGreatDoorBd34
import Derived.Test.YtflnpcgnenhogaaGreatDoorBd28
import Derived.Test.YtflnpcgnenhogaaGreatDoorBd29
import Derived.Test.YtflnpcgnenhogaaGreatDoorBd32
import Derived.Test.YtflnpcgnenhogaaGreatDoorBd36
import Derived.Test.YtflnpcgnenhogaaGreatDoorBd22
import Derived.Test.YtflnpcgnenhogaaGreatDoorBd21
namespace Go.Proofs.YtflnpcgnenhogaaGreatDoor.ls
open Go.RowKit Go.Proofs.YtflnpcgnenhogaaGreatDoor.own Go.Proofs.YtflnpcgnenhogaaGreatDoor.bit

theorem LO.put {w0 W W2 W3 : World} {ks : List (Nat × Obj)} {out bs : Bits} {v v3 : Value} (h : LO w0 ks out v W) (k2 : Below W.heap.size W W2) (own3 : W3.ownsRow w0.heap.size 4 1 v3 (out.length + bs.length) (bls out ++ bls bs)) (hg : W2.grownBy W3 v.ownBlock) (hw : v3.ownBlock = v.ownBlock ∨ v3.ownBlock = some W2.heap.size) : LO w0 ks (out ++ bs) v3 W3 :=
 LO.grow (LG.next h k2) bs _ rfl own3 hg hw
theorem LO.own {w0 W W2 : World} {ks : List (Nat × Obj)} {out : Bits} {v : Value} (h : LO w0 ks out v W) (k2 : Below W.heap.size W W2) : W2.ownsRow w0.heap.size 4 1 v out.length (bls out) := (LG.next h k2).2.1
theorem LO.first {w0 W W2 : World} {ks : List (Nat × Obj)} {bs : Bits} {v v2 : Value} (h : LO w0 ks [] v W) (o2 : W2.ownsRow W.heap.size 4 1 v2 bs.length (bls bs)) (k2 : Below W.heap.size W W2) : LO w0 ks bs v2 W2 :=
 ⟨h.1.trans (k2.mono h.1.size),own_base o2 h.1.size,fun p hp => ⟨(k2.block _ (lt_of_block (h.2.2 p hp).1)).trans (h.2.2 p hp).1,fun e => absurd (o2.lt _ e.symm).1 (Nat.not_le_of_gt (lt_of_block (h.2.2 p hp).1))⟩⟩
theorem LO.beside {w0 W W2 : World} {ks : List (Nat × Obj)} {out : Bits} {v vR : Value} {T : TypeId} {sz n : Nat} {xs : List Value} (h : LO w0 ks out v W) (k2 : Below W.heap.size W W2) (hR : W2.ownsRow W.heap.size T sz vR n xs) (hn : 0 < n) :
  ∃ g cap cur,vR = .slice (some ⟨g,0,none⟩) n cap /\ n <= cap /\ LO w0 ((g,.cells cur T (0,0)) :: ks) out v W2 /\ ∀ W' : World,W'.heap[g]? = some (.cells cur T (0,0)) -> ∀ j u,xs[j]? = some u -> W'.cell? ⟨g,j,none⟩ = some u := by
 obtain ⟨a0,cap0,e0,hcap⟩ := own_slice hR
 rcases hR.2 with ⟨_,h0⟩ | ⟨g,cap,cur,rfl,hb,hgg,_,_,_,htake⟩
 ·omega
 ·injection e0 with e1 e2 e3
  refine ⟨g,cap,cur,rfl,by rw [e3]; exact hcap,LG.with (LG.next h k2) hgg (fun e => ?_),fun W' hW j u hu => ?_⟩
  ·have := (h.2.1.lt _ e.symm).2
   omega
  ·rw [cell_of_row W' g j cur T (0,0) hW]
   rw [<- htake,List.getElem?_take] at hu
   split at hu
   ·simpa using hu
   ·cases hu
theorem LO.besides {w0 W W2 : World} {ks : List (Nat × Obj)} {out : Bits} {v : Value} {a : Option Addr} {d : Nat} {T : TypeId} {sz n : Nat} {xs : List Value} (h : LO w0 ks out v W2) (hR : W2.ownsRow W.heap.size T sz (.slice a n d) n xs) (hne : ∀ g, a = some ⟨g, 0, none⟩ → some g ≠ v.ownBlock) :
  ∃ ks', (∀ p ∈ ks,p ∈ ks') /\ LO w0 ks' out v W2 /\ ∀ W' : World,(∀ p ∈ ks', W'.heap[p.1]? = some p.2) -> ∀ j u,xs[j]? = some u -> ∃ g,a = some ⟨g,0,none⟩ /\ W'.cell? ⟨g,j,none⟩ = some u := by
 rcases hR.2 with ⟨e0,h0⟩ | ⟨g,cap,cur,e0,hb,hgg,_,_,_,htake⟩
 ·refine ⟨ks,fun p hp => hp,h,fun W' _ j u hu => ?_⟩
  have hx := hR.1
  rw [h0,Nat.zero_mul] at hx
  rw [List.eq_nil_of_length_eq_zero hx] at hu
  cases hu
 ·injection e0 with e1 e2 e3
  subst e1
  refine ⟨_,fun p hp => List.mem_cons_of_mem _ hp,LG.with h hgg (hne g rfl),fun W' hW j u hu => ⟨g,rfl,?_⟩⟩
  rw [cell_of_row W' g j cur T (0,0) (hW _ (List.mem_cons_self ..))]
  rw [<- htake,List.getElem?_take] at hu
  split at hu
  ·simpa using hu
  ·cases hu
theorem LO.low {w0 W : World} {ks : List (Nat × Obj)} {out : Bits} {v : Value} (h : LO w0 ks out v W) : Below w0.heap.size w0 W := h.1
theorem rnm_get : ∀ (k : Nat) (I : List Nat) (i : Nat) (h : i < I.length), (rnm k I)[i]? = some (I[i] - min (k + i) 1)
 | _,[],_,h => absurd h (Nat.not_lt_zero _)
 | k,n :: I,0,_ => by unfold rnm; simp
 | k,n :: I,i + 1,h => by
  unfold rnm
  rw [List.getElem?_cons_succ,rnm_get (k + 1) I i (by simpa using h),List.getElem_cons_succ,show k + 1 + i = k + (i + 1) by omega]
theorem piV_get : ∀ (L : List (Nat × Nat)) (i : Nat) (h : i < L.length), (piV L)[i * 2]? = some (.int .u32 (L[i].1 : Int)) ∧ (piV L)[i * 2 + 1]? = some (.int .i64 (L[i].2 : Int))
 | q :: L,0,_ => ⟨rfl,rfl⟩
 | q :: L,i + 1,h => by
  have := piV_get L i (by simpa using h)
  have e : piV (q :: L) = .int .u32 (q.1 : Int) :: .int .i64 (q.2 : Int) :: piV L := rfl
  rw [e,show (i + 1) * 2 = i * 2 + 1 + 1 by omega,List.getElem?_cons_succ,List.getElem?_cons_succ,List.getElem?_cons_succ,List.getElem?_cons_succ]
  exact this
theorem lnm_take (x itv : Nat) : ∀ (k : Nat) (e : Option Nat) (l : List (Nat × Nat)), lnm x itv e (l.take k) = (lnm x itv e l).take (2 * k)
 | 0,e,l => by rw [List.take_zero,Nat.mul_zero,List.take_zero]; cases e <;> rfl
 | k + 1,e,[] => by rw [List.take_nil,show lnm x itv e [] = [] by cases e <;> rfl,List.take_nil]
 | k + 1,e,(f,n) :: l => by rw [List.take_succ_cons,lnm_cons,lnm_cons,lnm_take x itv k,show 2 * (k + 1) = 2 * k + 1 + 1 by omega,List.take_succ_cons,List.take_succ_cons]
theorem znm_take (x : Nat) : ∀ (k : Nat) (e : Option Nat) (l : List Nat), znm x e (l.take k) = (znm x e l).take k
 | 0,e,l => by rw [List.take_zero,List.take_zero]; cases e <;> rfl
 | k + 1,none,[] => rfl
 | k + 1,some _,[] => rfl
 | k + 1,none,a :: l => by rw [List.take_succ_cons]; show _ :: znm x (some a) (l.take k) = (_ :: znm x (some a) l).take (k + 1); rw [znm_take x k,List.take_succ_cons]
 | k + 1,some _,a :: l => by rw [List.take_succ_cons]; show _ :: znm x (some a) (l.take k) = (_ :: znm x (some a) l).take (k + 1); rw [znm_take x k,List.take_succ_cons]
theorem gap_wrap (f g n v : Nat) (h1 : f < 65536) (h2 : g + n ≤ 65536) (h3 : f - (g + n - 1) - 2 = v) (h4 : g + n - 1 + 2 ≤ f ∧ 0 < n) : IntKind.i64.wrap (IntKind.i64.wrap (IntKind.i64.wrap (IntKind.i64.wrap (IntKind.i64.wrap (f : Int) - IntKind.i64.wrap (g : Int)) - (n : Int)) + 1) - 2) = (v : Int) := by
 obtain ⟨h4,h5⟩ := h4
 rw [i64_nat f (by omega),i64_nat g (by omega),i64_diff f g (by omega) (by omega),IntWalk.i64_in ((f : Int) - (g : Int) - (n : Int)) (by omega),IntWalk.i64_in ((f : Int) - (g : Int) - (n : Int) + 1) (by omega),IntWalk.i64_in _ (by omega)]
 omega
theorem rest_wrap (v u z : Nat) (h1 : v < 65536) (h2 : u < v) (h3 : v - u - 1 = z) : IntKind.u64.wrap (IntKind.u32.wrap (IntKind.u32.wrap ((v : Int) - (u : Int)) - 1)) = (z : Int) := by
 have e1 : IntKind.u32.wrap ((v : Int) - (u : Int)) = (v : Int) - (u : Int) := by rw [IntKind.wrap_u32]; omega
 have e2 : IntKind.u32.wrap ((v : Int) - (u : Int) - 1) = (z : Int) := by rw [IntKind.wrap_u32]; omega
 rw [e1,e2,IntWalk.u64_in _ (by omega)]
theorem LO.post {w0 W : World} {ks : List (Nat × Obj)} {out : Bits} {v : Value} (h : LO w0 ks out v W) : RowPost out w0 (.returned v) W := ⟨v, rfl, h.2.1, h.1⟩

def LT (w0 : World) (ks : List (Nat × Obj)) (out : Bits) (v : Value) (L : List Nat) (u : Value) (W : World) : Prop :=
 LO w0 ks out v W /\ W.ownsRow w0.heap.size 77 1 u L.length (u32V L) /\ (∀ g,v.ownBlock = some g -> u.ownBlock ≠ some g) /\ ∀ p ∈ ks,some p.1 ≠ u.ownBlock
theorem LT.add1 {w0 W W2 : World} {ks : List (Nat × Obj)} {out : Bits} {v : Value} {L : List Nat} {u u' : Value} (h : LT w0 ks out v L u W) (x : Nat) (o : Obj) (own : W2.ownsRow w0.heap.size 77 1 u' (L.length + 1) (u32V L ++ [.int .u32 (x : Int)])) (hg : (W.alloc o).grownBy W2 u.ownBlock) (hw : u'.ownBlock = u.ownBlock ∨ u'.ownBlock = some (W.heap.size + 1)) : LT w0 ks out v (L ++ [x]) u' W2 := by
 obtain ⟨⟨h1,h2,h3⟩,h4,h5,h6⟩ := h
 have hs : (W.alloc o).heap.size = W.heap.size + 1 := by simp
 refine ⟨⟨(h1.alloc h1.size o).grown hg (by have := h1.size; omega) (fun k hk => (h4.lt k hk).1),(h2.alloc o).kept hg ?_,fun p hp => ?_⟩,?_,fun g hgv => ?_,fun p hp => ?_⟩
 ·cases hv : v.ownBlock with
  | none => exact .inl rfl
  | some g => exact .inr (fun e => h5 g hv e.symm)
 ·have hlt := lt_of_block (h3 p hp).1
  exact ⟨(hg.block _ (by omega) (h6 p hp)).trans ((heap_alloc_old W o hlt).trans (h3 p hp).1),(h3 p hp).2⟩
 ·rw [List.length_append,u32V_append]; exact own
 ·rcases hw with e | e
  ·rw [e]; exact h5 g hgv
  ·rw [e]
   intro e2
   injection e2 with e2
   have := (h2.lt g hgv).2
   omega
 ·rcases hw with e | e
  ·rw [e]; exact h6 p hp
  ·rw [e]
   intro e2
   injection e2 with e2
   have := lt_of_block (h3 p hp).1
   omega
set_option maxRecDepth 100000 in
set_option maxHeartbeats 6400000 in
theorem dlaid_any (p : Pr) (x : Nat) (w : World) (a : Option Addr) (succ : List Nat) (cap : Nat) (b : Option Addr) (ref : List Nat) (capb r : Nat) (hc : succ.length ≤ cap) (_hcb : ref.length ≤ capb) (hm : MayN x succ ref r p) (hA : LV w a succ) (hB : LV w b ref) :
  Calls Tryz.prog 55 #[.int .i64 (x : Int),.slice a succ.length cap,.slice b ref.length capb,.int .i64 (r : Int),parV (p.win : Int) (p.itv : Int) (p.zet : Int)] w (RowPost (lay x succ ref r p) w) := by
 obtain ⟨i0,hi,hz0,hz1,hz2⟩ := info_parts Tryz.infoBool
 have LL := Lib.hid (lay_len hm)
 have MN := Lib.hid hm
 have GA := Lib.hid (fun v h W => gamma_any v h W)
 obtain ⟨⟨m1,m2,m3,m4⟩,m5,m6,m7,m8,m9⟩ := hm
 have hlen := m6.len
 have LY : Hid (lay x succ ref r p = cb .gam succ.length ++ bitsOf (if succ = [] then [] else (if 0 < p.win then [(.una,r)] else [])) ++ bitsOf (tlN x succ ref r p)) := Lib.hid (by unfold lay nums hdN; rw [bitsOf_append,bitsOf_cons])
 have H := Lib.hid (And.intro hA hB)
 unfold parV
 clear hA hB
 go_enter Tryz.func55,Tryz.ntmps55
 go_upto_region 1 with fail
 have H0 : LO w [(w.heap.size,.cells #[.int .i64 (p.win : Int),.int .i64 (p.itv : Int),.int .i64 (p.zet : Int)] 36 (0,0))] [] (.slice none 0 0) (w.alloc (.cells #[.int .i64 (p.win : Int),.int .i64 (p.itv : Int),.int .i64 (p.zet : Int)] 36)) := LG.keep (ks := []) ⟨Below.refl _ _,World.ownsRow_nil _ _ _ _,fun _ h => by cases h⟩ _ _
 obtain ⟨W1,hW1⟩ : ∃ W,World.alloc w (.cells #[.int .i64 (p.win : Int),.int .i64 (p.itv : Int),.int .i64 (p.zet : Int)] 36) = W := ⟨_,rfl⟩
 rw [hW1] at H0
 rw [hW1]
 have H0 := Lib.hid H0
 obtain ⟨N,hN⟩ : ∃ N,succ.length = N := ⟨_,rfl⟩
 have HN := Lib.hid hN
 have hN9 : N <= 65536 := by omega
 rw [hN] at hc ⊢
 go_wp2_with fail
 with_reducible refine (GA.out N (by omega) _).mono ?_
 rintro e W2 ⟨v2,rfl,o2,k2⟩
 have H1 := Lib.hid (LO.first H0.out o2 k2)
 have K1 : Hid (Below w.heap.size w W2) := Lib.hid H1.out.1
 obtain ⟨s2,d2,rfl⟩ := own_shape o2
 generalize (cb Cd.gam N).length = l1 at H1 ⊢
 clear o2 k2 H0
 by_cases hs : succ = []
 ·have hN0 : N = 0 := by rw [<- hN,hs]; rfl
  have E : Hid (lay x succ ref r p = cb .gam N) := Lib.hid (by rw [LY.out,HN.out,if_pos hs]; unfold tlN; rw [if_pos hs]; simp [bitsOf_nil])
  clear hN hs LY
  subst hN0
  go_wp2_with fail
  go_ret
  rw [E.out]
  exact H1.out.post
 ·have hN0 : ¬ (N : Int) = 0 := by
   intro h
   exact hs (List.eq_nil_of_length_eq_zero (by omega))
  have LY2 : Hid (lay x succ ref r p = cb .gam N ++ (if 0 < p.win then cb .una r else []) ++ bitsOf (runN succ ref r) ++ bitsOf (restN x (leftOf succ ref) p)) := Lib.hid (by
   rw [LY.out,HN.out,if_neg hs]; unfold tlN; rw [if_neg hs,bitsOf_append]
   split <;> simp [bitsOf_nil,bitsOf_cons,List.append_assoc])
  clear LY
  have HS := Lib.hid hs
  clear hs
  have hNb : ((N : Int) == 0) = false := beq_eq_false_iff_ne.2 hN0
  obtain ⟨wn,hwn⟩ : ∃ n,p.win = n := ⟨_,rfl⟩
  obtain ⟨iv,hiv⟩ : ∃ n,p.itv = n := ⟨_,rfl⟩
  obtain ⟨zt,hzt⟩ : ∃ n,p.zet = n := ⟨_,rfl⟩
  rw [hwn] at m1 m8 LY2
  rw [hiv] at m2
  rw [hzt] at m3 m4
  rw [hwn,hiv,hzt] at H1
  have c0 : W2.cell? ⟨w.heap.size,0,none⟩ = some (.int .i64 (wn : Int)) := by rw [cell_of_row _ _ _ _ _ _ (H1.out.row (List.mem_singleton.2 rfl))]; rfl
  go_upto_if 30 with fail
  go_cut [11] from 28 to 36 (fun v11 wc => LO w [(w.heap.size,.cells #[.int .i64 (wn : Int),.int .i64 (iv : Int),.int .i64 (zt : Int)] 36 (0,0))] (cb .gam N ++ (if 0 < wn then cb .una r else [])) v11 wc)
  case first =>
   by_cases hw0 : 0 < wn
   ·have i1 : decide ((0 : Int) < (wn : Int)) = true := decide_eq_true (by omega)
    have i1n : decide (0 < wn) = true := decide_eq_true hw0
    have f12 : IntKind.u64.wrap (r : Int) = (r : Int) := IntWalk.u64_in _ (by omega)
    have BU := Lib.hid (fun W => dbits_una r (by omega) W)
    have CL : (cb .gam N).length + (cb .una r).length <= 5243040 := by
     have := LL.out
     rw [LY2.out,if_pos hw0] at this
     simp only [List.length_append] at this
     omega
    have C3 : Hid ((cb .gam N).length + (cb .una r).length <= maxLen) := Lib.hid (by simp only [maxLen]; omega)
    have C4 : Hid (((cb .gam N).length + (cb .una r).length) * 1 <= 140737488355328) := Lib.hid (by omega)
    go_wp2_with fail
    with_reducible refine (BU.out _).mono ?_
    rintro e W3 ⟨v3,rfl,o3,k3⟩
    have pu := H1.out.own k3
    have ks := Nat.le_trans K1.out.size k3.size
    go_wp2_with (at_builtin; refine wpList_append_row _ rfl _ _ 26 rfl w.heap.size W2.heap.size 4 i0 _ 1 Tryz.underlying26 hi hz0 hz1 hz2 rfl _ _ _ rfl pu _ _ _ rfl o3 (bls_one _) C3.out C4.out ks ?_)
    intro v4 W4 own4 hg4 hw4
    have N1 := Lib.hid (H1.out.put k3 own4 hg4 hw4)
    clear own4 hg4 hw4 pu o3 k3
    go_wp2_with fail
    go_meet
    case rel => rw [if_pos hw0]; exact N1.out
   ·have i1 : decide ((0 : Int) < (wn : Int)) = false := decide_eq_false (by omega)
    have i1n : decide (0 < wn) = false := decide_eq_false hw0
    go_wp2_with fail
    go_meet
    case rel => rw [if_neg hw0,List.append_nil]; exact H1.out
  case rest =>
   have HCT := Lib.hid hcut
   obtain ⟨O1,hO1⟩ : ∃ O,cb .gam N ++ (if 0 < wn then cb .una r else []) = O := ⟨_,rfl⟩
   rw [hO1] at HCT LY2
   clear hcut hO1 H1 c0 K1
   go_upto_if 38 with fail
   go_cut [11,12,13] from 37 to 70 (fun v11 _ _ wc => LO w [(w.heap.size,.cells #[.int .i64 (wn : Int),.int .i64 (iv : Int),.int .i64 (zt : Int)] 36 (0,0))] (O1 ++ bitsOf (runN succ ref r)) v11 wc)
   case first =>
    by_cases hr0 : 0 < r
    ·have i1 : decide ((0 : Int) < (r : Int)) = true := decide_eq_true (by omega)
     have i1n : decide (0 < r) = true := decide_eq_true hr0
     have AB := Lib.hid (fun W (k : Below w.heap.size w W) => druns_any W a succ cap b ref capb (H.out.1.below k) (H.out.2.below k) m6 m7)
     have RN : Hid (bitsOf (runN succ ref r) = cb .gam (runs succ ref).1.length ++ bitsOf ((rnm 0 (runs succ ref).1).map (fun v => (Cd.gam,v)))) := Lib.hid (by unfold runN; rw [if_pos hr0,bitsOf_cons])
     have NK : ∀ q ∈ (Cd.gam,(runs succ ref).1.length) :: (rnm 0 (runs succ ref).1).map (fun v => (Cd.gam,v)),q.2 < 262144 := fun q hq => ((nums_ok MN.out).1 q (by
      unfold nums tlN runN
      rw [if_neg HS.out,if_pos hr0]
      exact List.mem_append_right _ (List.mem_append_left _ hq))).2.1
     have RO := (runs_ok succ ref).pos
     obtain ⟨⟨I,z⟩,hQ⟩ : ∃ Q,runs succ ref = Q := ⟨_,rfl⟩
     have RO : ∀ i (h : i < I.length),0 < i -> 0 < I[i] := by rw [hQ] at RO; exact RO
     rw [hQ] at AB RN NK
     rw [HN.out] at AB
     dsimp only at AB RN NK
     obtain ⟨n,hn⟩ : ∃ n,I.length = n := ⟨_,rfl⟩
     have hn9 : n < 262144 := by rw [<- hn]; exact NK _ (List.mem_cons_self ..)
     have RL : Hid (∀ i (h : i < n),(rnm 0 I)[i]? = some ((I[i]'(by omega)) - min i 1) /\ (I[i]'(by omega)) - min i 1 < 262144 /\ (0 < i -> 0 < I[i]'(by omega))) := Lib.hid (fun i h => by
      have e := rnm_get 0 I i (by omega)
      rw [Nat.zero_add] at e
      exact ⟨e,NK (Cd.gam,_) (List.mem_cons_of_mem _ (List.mem_map.2 ⟨_,List.mem_of_getElem? e,rfl⟩)),fun h0 => RO i (by omega) h0⟩)
     have RV : Hid (∀ i (h : i < n),(runV (I,z))[i]? = some (.int .i64 ((I[i]'(by omega) : Nat) : Int))) := Lib.hid (fun i h => by
      unfold runV intV
      dsimp only
      rw [List.map_append,List.getElem?_append_left (by rw [List.length_map]; omega),List.getElem?_map,List.getElem?_eq_getElem (by omega)]
      rfl)
     have LB : Hid (((rnm 0 I).map (fun v => (Cd.gam,v))).length = n) := Lib.hid (by rw [List.length_map,rnm_length]; exact hn)
     have CL : O1.length + (cb .gam n).length + (bitsOf ((rnm 0 I).map (fun v => (Cd.gam,v)))).length <= 5243040 := by
      have := LL.out
      rw [LY2.out,RN.out,hn] at this
      simp only [List.length_append] at this
      omega
     rw [hn] at AB RN
     clear NK RO hQ
     go_wp2_with fail
     with_reducible refine (AB.out _ HCT.out.low).mono ?_
     rintro e W3 ⟨vR,rfl,oR,k3⟩
     obtain ⟨g,capR,cur,rfl,hcR,h3,hcell⟩ := HCT.out.beside k3 oR (Nat.succ_pos _)
     have HCL := Lib.hid hcell
     have H3 := Lib.hid h3
     obtain ⟨s3,d3,rfl⟩ := own_shape h3.2.1
     have wn1 : wrap64 (((n + 1 : Nat) : Int) - 1) = (n : Int) := by rw [IntWalk.wrap64_in _ (by omega)]; omega
     clear k3 oR h3 hcell
     go_wp2_with fail
     with_reducible refine (GA.out n (by omega) _).mono ?_
     rintro e W4 ⟨v4,rfl,o4,k4⟩
     have C3 : Hid (O1.length + (cb .gam n).length <= maxLen) := Lib.hid (by simp only [maxLen]; omega)
     have C4 : Hid ((O1.length + (cb .gam n).length) * 1 <= 140737488355328) := Lib.hid (by omega)
     have pu := H3.out.own k4
     have ks := Nat.le_trans H3.out.low.size k4.size
     go_wp2_with (at_builtin; refine wpList_append_row _ rfl _ _ 26 rfl w.heap.size W3.heap.size 4 i0 _ 1 Tryz.underlying26 hi hz0 hz1 hz2 rfl _ _ _ rfl pu _ _ _ rfl o4 (bls_one _) C3.out C4.out ks ?_)
     intro v5 W5 own5 hg5 hw5
     have N1 := Lib.hid (H3.out.put k4 own5 hg5 hw5)
     clear own5 hg5 hw5 pu o4 k4 ks
     obtain ⟨B,hB⟩ : ∃ B,(rnm 0 I).map (fun v => (Cd.gam,v)) = B := ⟨_,rfl⟩
     rw [hB] at RN LB
     obtain ⟨O2,hO2⟩ : ∃ O,O1 ++ cb .gam n = O := ⟨_,rfl⟩
     rw [hO2] at N1
     have HB2 := Lib.hid (And.intro hB hO2)
     have CL2 : Hid (O2.length + (bitsOf B).length <= 5243040) := Lib.hid (by rw [<- hO2,<- hB,List.length_append]; exact CL)
     clear hB hO2 CL
     go_wp2_with fail
     go_loopw [11,13] (fun v11 v13 wr => ∃ i : Nat,i <= n /\ v13 = .int .i64 (i : Int) /\ LO w [(g,.cells cur 3 (0,0)),(w.heap.size,.cells #[.int .i64 (wn : Int),.int .i64 (iv : Int),.int .i64 (zt : Int)] 36 (0,0))] (O2 ++ bitsOf (B.take i)) v11 wr)
      (fun _ v13 _ => n - (intOf v13).toNat)
     case atStart => exact ⟨0,Nat.zero_le _,rfl,by rw [List.take_zero,bitsOf_nil,List.append_nil]; exact N1.out⟩
     case round =>
      obtain ⟨i,hin,rfl,hW⟩ := hrel
      rename World => wr
      obtain ⟨s5,d5,rfl⟩ := own_shape hW.2.1
      have HW := Lib.hid hW
      clear hW
      by_cases hilt : i < n
      ·have ci := HCL.out wr (HW.out.row (List.mem_cons_self ..)) i _ (RV.out i hilt)
       obtain ⟨e1,e2,e3⟩ := RL.out i hilt
       obtain ⟨q,hq⟩ : ∃ q,I[i]'(by omega) = q := ⟨_,rfl⟩
       rw [hq] at ci e1 e2 e3
       obtain ⟨m,hm⟩ : ∃ m,q - min i 1 = m := ⟨_,rfl⟩
       rw [hm] at e1 e2
       have BT : bitsOf (B.take (i + 1)) = bitsOf (B.take i) ++ cb .gam m := by
        have hb : i < B.length := by rw [LB.out]; exact hilt
        have e4 : B[i] = (Cd.gam,m) := by
         have : B[i]? = some (Cd.gam,m) := by rw [<- HB2.out.1,List.getElem?_map,e1]; rfl
         rw [List.getElem?_eq_getElem hb] at this
         exact Option.some.inj this
        rw [bitsOf_take B i hb,e4]
       obtain ⟨O3,hO3⟩ : ∃ O,O2 ++ bitsOf (B.take i) = O := ⟨_,rfl⟩
       rw [hO3] at HW ⊢
       have CL3 : O3.length + (cb .gam m).length <= 5243040 := by
        have h1 := bits_take_le B (i + 1)
        rw [BT,List.length_append] at h1
        have h2 := CL2.out
        rw [<- hO3,List.length_append]
        omega
       have C3 : Hid (O3.length + (cb .gam m).length <= maxLen) := Lib.hid (by simp only [maxLen]; omega)
       have C4 : Hid ((O3.length + (cb .gam m).length) * 1 <= 140737488355328) := Lib.hid (by omega)
       have RS : Hid (O2 ++ bitsOf (B.take (i + 1)) = O3 ++ cb .gam m) := Lib.hid (by rw [BT,<- hO3,List.append_assoc])
       clear e1 BT CL3 hO3 hq
       by_cases h0 : i = 0
       ·subst h0
        have hmq : q = m := by omega
        subst hmq
        go_wp2_with fail
        with_reducible refine (GA.out q (by omega) _).mono ?_
        rintro e W6 ⟨v6,rfl,o6,k6⟩
        have pu := HW.out.own k6
        have ks := Nat.le_trans HW.out.low.size k6.size
        go_wp2_with (at_builtin; refine wpList_append_row _ rfl _ _ 26 rfl w.heap.size wr.heap.size 4 i0 _ 1 Tryz.underlying26 hi hz0 hz1 hz2 rfl _ _ _ rfl pu _ _ _ rfl o6 (bls_one _) C3.out C4.out ks ?_)
        intro v7 W7 own7 hg7 hw7
        have N2 := Lib.hid (HW.out.put k6 own7 hg7 hw7)
        clear own7 hg7 hw7 pu o6 k6 ks
        go_wp2_with fail
        go_roundw
        case rel => exact ⟨0 + 1,hilt,by go_num,by rw [RS.out]; exact N2.out⟩
        case measure => simp [intOf]; try omega
       ·have hmq : (q : Int) - 1 = (m : Int) := by have := e3 (by omega); omega
        have hib : ((i : Int) == 0) = false := beq_eq_false_iff_ne.2 (by omega)
        clear hm e3
        go_wp2_with fail
        with_reducible refine (GA.out m (by omega) _).mono ?_
        rintro e W6 ⟨v6,rfl,o6,k6⟩
        have pu := HW.out.own k6
        have ks := Nat.le_trans HW.out.low.size k6.size
        go_wp2_with (at_builtin; refine wpList_append_row _ rfl _ _ 26 rfl w.heap.size wr.heap.size 4 i0 _ 1 Tryz.underlying26 hi hz0 hz1 hz2 rfl _ _ _ rfl pu _ _ _ rfl o6 (bls_one _) C3.out C4.out ks ?_)
        intro v7 W7 own7 hg7 hw7
        have N2 := Lib.hid (HW.out.put k6 own7 hg7 hw7)
        clear own7 hg7 hw7 pu o6 k6 ks
        go_wp2_with fail
        go_roundw
        case rel => exact ⟨i + 1,hilt,by go_num,by rw [RS.out]; exact N2.out⟩
        case measure => simp [intOf]; try omega
      ·have hie : i = n := by omega
       subst hie
       have i5 : decide ((i : Int) + 1 < ((i + 1 : Nat) : Int)) = false := decide_eq_false (by omega)
       have FIN : Hid (O1 ++ bitsOf (runN succ ref r) = O2 ++ bitsOf (B.take i)) := Lib.hid (by
        rw [RN.out,List.take_of_length_le (by rw [LB.out]; exact Nat.le_refl _),<- HB2.out.2,List.append_assoc])
       go_wp2_with fail
       go_meet
       case rel => rw [FIN.out]; exact LG.sub HW.out (fun p hp => List.mem_cons_of_mem _ hp)
     all_goals skip
    ·have i1 : decide ((0 : Int) < (r : Int)) = false := decide_eq_false (by omega)
     have i1n : decide (0 < r) = false := decide_eq_false hr0
     go_wp2_with fail
     go_meet
     case rel => unfold runN; rw [if_neg hr0,bitsOf_nil,List.append_nil]; exact HCT.out
   case rest =>
    have HCT2 := Lib.hid hcut
    obtain ⟨O5,hO5⟩ : ∃ O,O1 ++ bitsOf (runN succ ref r) = O := ⟨_,rfl⟩
    rw [hO5] at HCT2 LY2
    clear hcut hO5 HCT
    obtain ⟨j0,hj,hj0,hj1,hj2⟩ := info_parts Tryz.infoU32
    have IN := Lib.hid (fun W (k : Below w.heap.size w W) v => in_any W b ref capb v (H.out.2.below k) m7.1)
    have LT0 : Hid (LT w [(w.heap.size,.cells #[.int .i64 (wn : Int),.int .i64 (iv : Int),.int .i64 (zt : Int)] 36 (0,0))] O5 u11 [] (.slice none 0 0) wc) := Lib.hid ⟨HCT2.out,World.ownsRow_nil _ _ _ _,(fun g hg e => nomatch e),(fun p hp e => nomatch e)⟩
    clear HCT2
    go_wp2_with fail
    go_loopw [14,15] (fun v14 v15 wr => ∃ i : Nat,i <= N /\ v15 = .int .i64 (i : Int) /\ LT w [(w.heap.size,.cells #[.int .i64 (wn : Int),.int .i64 (iv : Int),.int .i64 (zt : Int)] 36 (0,0))] O5 u11 (leftOf (succ.take i) ref) v14 wr)
     (fun _ v15 _ => N - (intOf v15).toNat)
    case atStart => exact ⟨0,Nat.zero_le _,rfl,by rw [List.take_zero]; exact LT0.out⟩
    case round =>
     obtain ⟨i,hin,rfl,hT⟩ := hrel
     rename World => wr
     have HT := Lib.hid hT
     obtain ⟨s6,d6,rfl⟩ := own_shape hT.2.1
     clear hT
     by_cases hlt : i < N
     ·have i0' : decide ((i : Int) < (N : Int)) = true := decide_eq_true (by omega)
      have hil : i < succ.length := by rw [HN.out]; exact hlt
      obtain ⟨a0,ha0⟩ : ∃ x,succ[i] = x := ⟨_,rfl⟩
      obtain ⟨g,o,rfl⟩ := H.out.1.addr (by omega)
      have c0 : wr.cell? ⟨g,o + i,none⟩ = some (.int .u32 (a0 : Int)) := by
       obtain ⟨g', o', e,h3,_⟩ := (H.out.1.below HT.out.1.low).cellAt i hil
       injection e with e
       injection e with e1 e2
       subst e1 e2
       rw [h3,ha0]
      obtain ⟨bb,hbb⟩ : ∃ q,isIn ref a0 = q := ⟨_,rfl⟩
      have LS : Hid (leftOf (succ.take (i + 1)) ref = leftOf (succ.take i) ref ++ (if bb then [] else [a0])) := Lib.hid (by
       unfold leftOf
       rw [List.take_succ_eq_append_getElem hil,List.filter_append,ha0]
       congr 1
       rw [List.filter_cons,hbb]
       cases bb <;> rfl)
      have hLn : (leftOf (succ.take i) ref).length <= 65536 := Nat.le_trans (List.length_filter_le _ _) (by rw [List.length_take]; omega)
      obtain ⟨L,hL⟩ : ∃ L,leftOf (succ.take i) ref = L := ⟨_,rfl⟩
      rw [hL] at HT LS hLn ⊢
      have IN2 := Lib.hid (IN.out wr HT.out.1.low a0)
      rw [hbb] at IN2
      clear hL hbb ha0
      go_wp2_with fail
      with_reducible refine IN2.out.mono ?_
      rintro e w6 ⟨rfl,rfl⟩
      cases bb with
      | true =>
       go_wp2_with fail
       go_roundw
       case rel => exact ⟨i + 1,hlt,by go_num,by rw [LS.out]; simpa using HT.out⟩
       case measure => simp [intOf]; try omega
      | false =>
       have C3 : Hid (L.length + 1 <= maxLen) := Lib.hid (by simp only [maxLen]; omega)
       have C4 : Hid ((L.length + 1) * 4 <= 140737488355328) := Lib.hid (by omega)
       have C5 : Hid (w.heap.size <= wr.heap.size) := Lib.hid HT.out.1.low.size
       have ho := HT.out.2.1
       have C5' : Hid (w.heap.size <= (wr.alloc (.cells #[.int .u32 (a0 : Int)] 77)).heap.size) := Lib.hid (by simp; exact Nat.le_succ_of_le C5.out)
       have OA := Lib.hid (ho.alloc (.cells #[.int .u32 (a0 : Int)] 77))
       go_wp2_with (at_builtin; refine wpList_append_at _ rfl _ _ 34 rfl w.heap.size 77 j0 _ 1 4 Tryz.underlying34 hj hj0 hj1 hj2 rfl (by decide) _ L.length _ rfl OA.out ⟨wr.heap.size,0,none⟩ 1 1 [.int .u32 (a0 : Int)] rfl rfl (cell_one_new _ _ _) (u32_one [a0]) C3.out C4.out C5'.out (by decide) ?_)
       intro v7 w7 own7 hg7 hw7
       have T2 := Lib.hid (HT.out.add1 a0 _ own7 hg7 hw7)
       clear ho own7 hg7 hw7
       go_wp2_with fail
       go_roundw
       case rel => exact ⟨i + 1,hlt,by go_num,by rw [LS.out]; simpa using T2.out⟩
       case measure => simp [intOf]; try omega
     ·have i0' : decide ((i : Int) < (N : Int)) = false := decide_eq_false (by omega)
      have hie : leftOf (succ.take i) ref = leftOf succ ref := by rw [List.take_of_length_le (by rw [HN.out]; omega)]
      obtain ⟨L,hL⟩ : ∃ L,leftOf succ ref = L := ⟨_,rfl⟩
      rw [hie,hL] at HT ⊢
      rw [hL] at LY2
      have HLF := Lib.hid hL
      clear hie hL
      by_cases hL0 : L = []
      ·have E : Hid (lay x succ ref r p = O5) := Lib.hid (by rw [LY2.out]; unfold restN; rw [if_pos hL0,bitsOf_nil,List.append_nil])
       subst hL0
       have hT1 := HT.out.1
       obtain ⟨s7,d7,rfl⟩ := own_shape hT1.2.1
       go_wp2_with fail
       go_ret
       rw [E.out]
       exact hT1.post
      ·have hRL : Ris L := by
        rw [<- HLF.out]
        exact ⟨m6.1.sublist (List.filter_sublist ..),fun v hv => m6.2 v ((List.mem_filter.1 hv).1)⟩
       have hLl := hRL.len
       have hln : ¬ (L.length : Int) = 0 := fun h => hL0 (List.eq_nil_of_length_eq_zero (by omega))
       have hlnb : ((L.length : Int) == 0) = false := beq_eq_false_iff_ne.2 hln
       obtain ⟨aL,cL,eL,hcL,hLV⟩ := lv_own (by omega) (fun u hu => Nat.lt_of_lt_of_le (hRL.2 u hu) (by decide)) HT.out.2.1
       injection eL with eL1 eL2 eL3
       subst eL1 eL3
       have c1 : wr.cell? ⟨w.heap.size,1,none⟩ = some (.int .i64 (iv : Int)) := by rw [cell_of_row _ _ _ _ _ _ (HT.out.1.row (List.mem_singleton.2 rfl))]; rfl
       have IV := Lib.hid (intervals_any wr s6 L d6 iv hcL (by omega) hLV hRL)
       clear hLV
       go_wp2_with fail
       with_reducible refine IV.out.mono ?_
       rintro e w8 ⟨v1,v2,rfl,hI⟩
       have HI := Lib.hid hI
       obtain ⟨a8,d8,rfl⟩ := own_shape hI.2.1
       obtain ⟨a9,d9,rfl⟩ := own_shape hI.2.2.1
       have HN8 : Hid (LO w [(w.heap.size,.cells #[.int .i64 (wn : Int),.int .i64 (iv : Int),.int .i64 (zt : Int)] 36 (0,0))] O5 u11 w8) := Lib.hid (LG.next HT.out.1 hI.1)
       clear hI c1
       have c1 : w8.cell? ⟨w.heap.size,1,none⟩ = some (.int .i64 (iv : Int)) := by rw [cell_of_row _ _ _ _ _ _ (HN8.out.row (List.mem_singleton.2 rfl))]; rfl
       have HLO := Lib.hid HT.out.1
       obtain ⟨⟨rws1,rst1⟩,hRW⟩ : ∃ Q,rws iv L = Q := ⟨_,rfl⟩
       have HRW := Lib.hid hRW
       rw [hRW] at HI ⊢
       dsimp only at HI ⊢
       obtain ⟨ks1,hs1,h8a,HC1⟩ := LO.besides HN8.out HI.out.2.1 (fun g e he => by
        have e1 := (HLO.out.2.1.lt g he.symm).2
        have e2 := (HI.out.2.1.lt g (by rw [e]; rfl)).1
        omega)
       obtain ⟨ks2,hs2,h8b,HC2⟩ := LO.besides h8a HI.out.2.2.1 (fun g e he => by
        have e1 := (HLO.out.2.1.lt g he.symm).2
        have e2 := (HI.out.2.2.1.lt g (by rw [e]; rfl)).1
        omega)
       have PB := Lib.hid (hs2 _ (hs1 _ (List.mem_singleton.2 rfl)))
       have HC1 := Lib.hid (fun W' (h : ∀ p ∈ ks2,W'.heap[p.1]? = some p.2) => HC1 W' (fun p hp => h p (hs2 p hp)))
       have HC2 := Lib.hid HC2
       have H8 := Lib.hid h8b
       clear h8a h8b hs1 hs2 hRW HN8 HI HLO
       have RB : Hid (bitsOf (restN x L p) = (if 0 < iv then cb .gam rws1.length else []) ++ bitsOf ((lnm x iv none rws1).map (fun v => (Cd.gam,v))) ++ bitsOf ((znm x none rst1).map (fun v => (Cd.zet zt,v)))) := Lib.hid (by
        unfold restN
        rw [if_neg hL0,hiv,hzt,HRW.out,bitsOf_append,bitsOf_append]
        congr 2
        split <;> simp [bitsOf_cons,bitsOf_nil])
       have NKR : Hid (∀ q ∈ restN x L p,q.2 < 262144) := Lib.hid (fun q hq => ((nums_ok MN.out).1 q (by
        unfold nums tlN
        rw [if_neg HS.out,HLF.out]
        exact List.mem_append_right _ (List.mem_append_right _ hq))).2.1)
       have CL : O5.length + (bitsOf (restN x L p)).length <= 5243040 := by
        have := LL.out
        rw [LY2.out] at this
        simpa only [List.length_append] using this
       go_upto_if 104 with fail
       go_cut [11] from 102 to 109 (fun v11 wc => LO w ks2 (O5 ++ (if 0 < iv then cb .gam rws1.length else [])) v11 wc)
       case first =>
        by_cases hv0 : 0 < iv
        ·have i1 : decide ((0 : Int) < (iv : Int)) = true := decide_eq_true (by omega)
         have i1n : decide (0 < iv) = true := decide_eq_true hv0
         have hnr : rws1.length < 262144 := NKR.out (Cd.gam,rws1.length) (by
          unfold restN
          rw [if_neg hL0,hiv,HRW.out,if_pos hv0]
          exact List.mem_append_left _ (List.mem_append_left _ (List.mem_singleton.2 rfl)))
         rw [RB.out,if_pos hv0] at CL
         simp only [List.length_append] at CL
         have C3 : Hid (O5.length + (cb .gam rws1.length).length <= maxLen) := Lib.hid (by simp only [maxLen]; omega)
         have C4 : Hid ((O5.length + (cb .gam rws1.length).length) * 1 <= 140737488355328) := Lib.hid (by omega)
         obtain ⟨s9,d9,rfl⟩ := own_shape H8.out.2.1
         clear CL
         go_wp2_with fail
         with_reducible refine (GA.out rws1.length (by omega) _).mono ?_
         rintro e W4 ⟨v4,rfl,o4,k4⟩
         have pu := H8.out.own k4
         have ks := Nat.le_trans H8.out.low.size k4.size
         go_wp2_with (at_builtin; refine wpList_append_row _ rfl _ _ 26 rfl w.heap.size w8.heap.size 4 i0 _ 1 Tryz.underlying26 hi hz0 hz1 hz2 rfl _ _ _ rfl pu _ _ _ rfl o4 (bls_one _) C3.out C4.out ks ?_)
         intro v5 W5 own5 hg5 hw5
         have N1 := Lib.hid (H8.out.put k4 own5 hg5 hw5)
         clear own5 hg5 hw5 pu o4 k4 ks
         go_wp2_with fail
         go_meet
         case rel => rw [if_pos hv0]; exact N1.out
        ·have i1 : decide ((0 : Int) < (iv : Int)) = false := decide_eq_false (by omega)
         have i1n : decide (0 < iv) = false := decide_eq_false hv0
         go_wp2_with fail
         go_meet
         case rel => rw [if_neg hv0,List.append_nil]; exact H8.out
       case rest =>
        have HC5 := Lib.hid hcut
        obtain ⟨O6,hO6⟩ : ∃ O,O5 ++ (if 0 < iv then cb .gam rws1.length else []) = O := ⟨_,rfl⟩
        rw [hO6] at HC5
        have LY3 : Hid (lay x succ ref r p = O6 ++ bitsOf ((lnm x iv none rws1).map (fun v => (Cd.gam,v))) ++ bitsOf ((znm x none rst1).map (fun v => (Cd.zet zt,v)))) := Lib.hid (by rw [LY2.out,RB.out,<- hO6]; simp only [List.append_assoc])
        have AP := Lib.hid (show Apart iv none rws1 from by have h := (rws_ok iv L hRL).apart; rw [HRW.out] at h; exact h)
        obtain ⟨np,hnp⟩ : ∃ np,rws1.length = np := ⟨_,rfl⟩
        obtain ⟨nr,hnr⟩ : ∃ nr,rst1.length = nr := ⟨_,rfl⟩
        have NKL : Hid (∀ v ∈ lnm x iv none rws1,v < 262144) := Lib.hid (fun v hv => NKR.out (Cd.gam,v) (by
         unfold restN
         rw [if_neg hL0,hiv,HRW.out]
         exact List.mem_append_left _ (List.mem_append_right _ (List.mem_map.2 ⟨v,hv,rfl⟩))))
        have NKZ : Hid (∀ v ∈ znm x none rst1,v < 262144) := Lib.hid (fun v hv => NKR.out (Cd.zet zt,v) (by
         unfold restN
         rw [if_neg hL0,hiv,hzt,HRW.out]
         exact List.mem_append_right _ (List.mem_map.2 ⟨v,hv,rfl⟩)))
        have CLR : Hid (∀ k,(O6 ++ bitsOf ((lnm x iv none (rws1.take k)).map (fun v => (Cd.gam,v)))).length + (bitsOf ((znm x none rst1).map (fun v => (Cd.zet zt,v)))).length <= 5243040) := Lib.hid (fun k => by
         have h1 := LL.out
         rw [LY3.out] at h1
         have h2 := bits_take_le ((lnm x iv none rws1).map (fun v => (Cd.gam,v))) (2 * k)
         rw [<- List.map_take,<- lnm_take] at h2
         simp only [List.length_append] at h1 ⊢
         omega)
        have hnp9 : np < 262144 := by
         by_cases h0 : 0 < iv
         ·rw [<- hnp]; exact NKR.out (Cd.gam,rws1.length) (by
           unfold restN
           rw [if_neg hL0,hiv,HRW.out,if_pos h0]
           exact List.mem_append_left _ (List.mem_append_left _ (List.mem_singleton.2 rfl)))
         ·have h2 := apart_len _ _ AP.out
          have h1 := (rws_ok iv L hRL).perm.length_eq
          rw [List.length_append,sumLen,HRW.out] at h1
          dsimp only at h1
          omega
        have hnr9 : nr < 262144 := by
         have h1 := (rws_ok iv L hRL).sub.length_le
         rw [HRW.out] at h1
         dsimp only at h1
         omega
        have HNP := Lib.hid hnp
        have HNR := Lib.hid hnr
        rw [hnp,hnr]
        clear hcut hO6 H8 CL hnp hnr
        go_wp2_with fail
        go_loopw [11,18] (fun v11 v18 wr => ∃ i : Nat,i <= np /\ v18 = .int .i64 (i : Int) /\ LO w ks2 (O6 ++ bitsOf ((lnm x iv none (rws1.take i)).map (fun v => (Cd.gam,v)))) v11 wr)
         (fun _ v18 _ => np - (intOf v18).toNat)
        case atStart => exact ⟨0,Nat.zero_le _,rfl,by rw [List.take_zero]; unfold lnm; rw [List.map_nil,bitsOf_nil,List.append_nil]; exact HC5.out⟩
        case round =>
         obtain ⟨i,hin,rfl,hT⟩ := hrel
         rename World => wr
         obtain ⟨s5,d5,rfl⟩ := own_shape hT.2.1
         have HT := Lib.hid hT
         clear hT
         by_cases hlt : i < np
         · --A1
          have hip : i < rws1.length := by rw [HNP.out]; exact hlt
          obtain ⟨g,rfl,p0⟩ := HC1.out wr (fun p hp => (HT.out.2.2 p hp).1) (i * 2) _ (piV_get rws1 i hip).1
          obtain ⟨g', eg,p1⟩ := HC1.out wr (fun p hp => (HT.out.2.2 p hp).1) (i * 2 + 1) _ (piV_get rws1 i hip).2
          obtain rfl : g' = g := by injection eg with eg; injection eg with eg; exact eg.symm
          obtain ⟨b0,b1,b2,b3⟩ := Apart.get AP.out i hip
          obtain ⟨f,hf⟩ : ∃ f,rws1[i].1 = f := ⟨_,rfl⟩
          obtain ⟨n', hn'⟩ : ∃ n', rws1[i].2 = n' := ⟨_,rfl⟩
          rw [hf] at p0 b2 b3
          rw [hn'] at p1 b0 b1 b2
          have TK : Hid (rws1.take (i + 1) = rws1.take i ++ [(f,n')]) := Lib.hid (by rw [List.take_succ_eq_append_getElem hip,<- hf,<- hn'])
          have SN := Lib.hid (lnm_snoc x iv none (rws1.take i) f n')
          rw [<- TK.out] at SN
          obtain ⟨v0,hv0⟩ : ∃ v0,frstN x (lend none (rws1.take i)) f = v0 := ⟨_,rfl⟩
          rw [hv0] at SN
          have V0 := Lib.hid hv0
          obtain ⟨O7,hO7⟩ : ∃ O,O6 ++ bitsOf ((lnm x iv none (rws1.take i)).map (fun v => (Cd.gam,v))) = O := ⟨_,rfl⟩
          rw [hO7] at HT ⊢
          have LS : Hid (O6 ++ bitsOf ((lnm x iv none (rws1.take (i + 1))).map (fun v => (Cd.gam,v))) = O7 ++ cb .gam v0 ++ cb .gam (n' - iv)) := Lib.hid (by
           rw [SN.out,List.map_append,bitsOf_append,<- List.append_assoc,hO7]
           simp [bitsOf_cons,bitsOf_nil])
          have CLi : O7.length + (cb .gam v0).length + (cb .gam (n' - iv)).length <= 5243040 := by
           have h1 := CLR.out (i + 1)
           have h2 := congrArg List.length LS.out
           simp only [List.length_append] at h1 h2
           omega
          have hv9 : v0 < 262144 := NKL.out v0 (by
           have h1 : v0 ∈ lnm x iv none (rws1.take (i + 1)) := by rw [SN.out]; exact List.mem_append_right _ (List.mem_cons_self ..)
           rw [lnm_take] at h1
           exact List.mem_of_mem_take h1)
          have HN2 := Lib.hid hn'
          clear hf hn' hO7 hv0 eg
          have C3 : Hid (O7.length + (cb .gam v0).length <= maxLen) := Lib.hid (by simp only [maxLen]; omega)
          have C4 : Hid ((O7.length + (cb .gam v0).length) * 1 <= 140737488355328) := Lib.hid (by omega)
          have B3 := Lib.hid b3
          clear b3
          go_upto_if 117 with fail
          go_cut [11] from 116 to 152 (fun v11 wc => LO w ks2 (O7 ++ cb .gam v0) v11 wc)
          case first =>
           by_cases h0 : i = 0
           ·subst h0
            have ZG := Lib.hid (fun W => dzig_any f x (by omega) m5 W)
            have V1 : Hid (zig ((f : Int) - (x : Int)) = v0) := Lib.hid (by rw [<- V0.out,List.take_zero]; rfl)
            rw [V1.out] at ZG
            rw [Nat.zero_mul] at p0
            go_wp2_with fail
            with_reducible refine (ZG.out _).mono ?_
            rintro e w2 ⟨rfl,rfl⟩
            go_wp2_with fail
            with_reducible refine (GA.out v0 (by omega) _).mono ?_
            rintro e W6 ⟨v6,rfl,o6,k6⟩
            have pu := HT.out.own k6
            have ks := Nat.le_trans HT.out.low.size k6.size
            go_wp2_with (at_builtin; refine wpList_append_row _ rfl _ _ 26 rfl w.heap.size wr.heap.size 4 i0 _ 1 Tryz.underlying26 hi hz0 hz1 hz2 rfl _ _ _ rfl pu _ _ _ rfl o6 (bls_one _) C3.out C4.out ks ?_)
            intro v7 W7 own7 hg7 hw7
            have N2 := Lib.hid (HT.out.put k6 own7 hg7 hw7)
            clear own7 hg7 hw7 pu o6 k6 ks
            go_wp2_with fail
            go_meet
            case rel => exact N2.out
           ·obtain ⟨j,hj⟩ : ∃ j,j + 1 = i := ⟨i - 1,by omega⟩
            have hjp : j < rws1.length := by rw [HNP.out]; omega
            obtain ⟨g2,eg,q0⟩ := HC1.out wr (fun p hp => (HT.out.2.2 p hp).1) (j * 2) _ (piV_get rws1 j hjp).1
            obtain rfl : g' = g2 := by injection eg with eg; injection eg with eg
            obtain ⟨g2,eg,q1⟩ := HC1.out wr (fun p hp => (HT.out.2.2 p hp).1) (j * 2 + 1) _ (piV_get rws1 j hjp).2
            obtain rfl : g' = g2 := by injection eg with eg; injection eg with eg
            obtain ⟨c0,c1,c2,c3⟩ := Apart.get AP.out j hjp
            have LD : lend none (rws1.take i) = some (rws1[j].1 + rws1[j].2 - 1) := by
             rw [<- hj,List.take_succ_eq_append_getElem hjp]
             exact lend_snoc _ _ _ _
            have b4 := B3.out _ LD
            have V1 := V0.out
            rw [LD] at V1
            change f - _ - 2 = v0 at V1
            obtain ⟨f2,hf2⟩ : ∃ f,rws1[j].1 = f := ⟨_,rfl⟩
            obtain ⟨n2,hn2⟩ : ∃ n,rws1[j].2 = n := ⟨_,rfl⟩
            rw [hf2] at q0 c2 b4 V1
            rw [hn2] at q1 c0 c1 c2 b4 V1
            have a1 : IntKind.i64.wrap ((i : Int) - 1) = (j : Int) := by rw [IntWalk.i64_in _ (by omega)]; omega
            have a2 : (j : Int) < (np : Int) := by omega
            have a3 : (0 : Int) <= (j : Int) := Int.natCast_nonneg _
            have hib : ((i : Int) == 0) = false := beq_eq_false_iff_ne.2 (by omega)
            clear hf2 hn2 LD eg
            go_upto_region 31 with fail
            have Z5 := Lib.hid (gap_wrap f f2 n2 v0 (by omega) (by omega) V1 ⟨b4,c1⟩)
            clear V1 b4 c0 c1 c2 c3 eg b0 b2
            have HTD : Hid (LO w ks2 O7 (.slice s5 O7.length d5) wr.drew) := Lib.hid (LG.drew HT.out)
            --R31
            go_region_law (first
             | (go_simp; go_at_call 89; rw [Z5.out]; (with_reducible refine (GA.out v0 (by omega) _).mono ?_); rintro e W6 ⟨v6,rfl,o6,k6⟩; have pu := HTD.out.own k6; have ks := Nat.le_trans HTD.out.low.size k6.size; dsimp only)
             | (refine wp_append_row _ (by rfl) (.tmp 127) (.tmp 151) 26 rfl w.heap.size wr.heap.size 4 i0 (.bool false) 1 Tryz.underlying26 hi hz0 hz1 hz2 rfl _ _ _ rfl pu _ _ _ rfl o6 (bls_one _) C3.out C4.out ks ?_; intro v7 W7 own7 hg7 hw7; have N2 := Lib.hid (HTD.out.put k6 own7 hg7 hw7); obtain ⟨a3,cap3,rfl⟩ := own_shape own7; clear own7 hg7 hw7))
            all_goals
             go_wp2_with fail
             go_meet
            all_goals exact N2.out
          case rest =>
           have HU := Lib.hid hcut
           rename World => wq
           obtain ⟨s9,d9', rfl⟩ := own_shape HU.out.2.1
           clear hcut HT p0 p1
           obtain ⟨g2,eg,p1⟩ := HC1.out wq (fun p hp => (HU.out.2.2 p hp).1) (i * 2 + 1) _ (piV_get rws1 i hip).2
           obtain rfl : g' = g2 := by injection eg with eg; injection eg with eg
           have q1 : wq.cell? ⟨w.heap.size,1,none⟩ = some (.int .i64 (iv : Int)) := by rw [cell_of_row _ _ _ _ _ _ (HU.out.row PB.out)]; rfl
           obtain ⟨O8,hO8⟩ : ∃ O,O7 ++ cb .gam v0 = O := ⟨_,rfl⟩
           obtain ⟨d,hd⟩ : ∃ d,n' - iv = d := ⟨_,rfl⟩
           rw [HN2.out] at p1
           rw [hO8] at HU LS ⊢
           rw [hd] at LS CLi
           have CL8 : O8.length + (cb .gam d).length <= 5243040 := by rw [<- hO8,List.length_append]; omega
           have C3 : Hid (O8.length + (cb .gam d).length <= maxLen) := Lib.hid (by simp only [maxLen]; omega)
           have C4 : Hid ((O8.length + (cb .gam d).length) * 1 <= 140737488355328) := Lib.hid (by omega)
           have Z6 : Hid (IntKind.i64.wrap ((n' : Int) - (iv : Int)) = (d : Int)) := Lib.hid (by rw [IntWalk.i64_in _ (by omega)]; omega)
           have d9 : d < 262144 := by omega
           clear hO8 hd CLi CL8 eg b0 b1 b2 hv9
           go_upto_region 32 with fail
           have HTD : Hid (LO w ks2 O8 (.slice s9 O8.length d9') wq.drew) := Lib.hid (LG.drew HU.out)
           --R32
           go_region_law (first
            | (go_simp; go_at_call 89; rw [Z6.out]; (with_reducible refine (GA.out d (by omega) _).mono ?_); rintro e W6 ⟨v6,rfl,o6,k6⟩; have pu := HTD.out.own k6; have ks := Nat.le_trans HTD.out.low.size k6.size; dsimp only)
            | (refine wp_append_row _ (by rfl) (.tmp 153) (.tmp 162) 26 rfl w.heap.size wq.heap.size 4 i0 (.bool false) 1 Tryz.underlying26 hi hz0 hz1 hz2 rfl _ _ _ rfl pu _ _ _ rfl o6 (bls_one _) C3.out C4.out ks ?_; intro v7 W7 own7 hg7 hw7; have N2 := Lib.hid (HTD.out.put k6 own7 hg7 hw7); obtain ⟨a3,cap3,rfl⟩ := own_shape own7; clear own7 hg7 hw7))
           all_goals
            go_wp2_with fail
            go_roundw
           all_goals first | exact ⟨i + 1,hlt,by go_num,by rw [LS.out]; exact N2.out⟩ | (simp [intOf]; omega)
         ·have hie : i = np := by omega
          subst hie
          have i5 : decide ((i : Int) < (i : Int)) = false := decide_eq_false (by omega)
          have TK : Hid (rws1.take i = rws1) := Lib.hid (List.take_of_length_le (by rw [HNP.out]; exact Nat.le_refl _))
          rw [TK.out] at HT
          obtain ⟨O7,hO7⟩ : ∃ O,O6 ++ bitsOf ((lnm x iv none rws1).map (fun v => (Cd.gam,v))) = O := ⟨_,rfl⟩
          rw [TK.out,hO7]
          rw [hO7] at HT LY3
          clear hO7
          have c2 : wr.cell? ⟨w.heap.size,2,none⟩ = some (.int .i64 (zt : Int)) := by rw [cell_of_row _ _ _ _ _ _ (HT.out.row PB.out)]; rfl
          have zw : IntKind.u64.wrap (zt : Int) = (zt : Int) := IntWalk.u64_in _ (by omega)
          have HLr : Hid (Ris rst1) := Lib.hid (by
           have h1 := (rws_ok iv L hRL).sub
           rw [HRW.out] at h1
           exact ⟨hRL.1.sublist h1,fun v hv => hRL.2 v (h1.subset hv)⟩)
          go_upto_region 34 with fail
          have H9 : Hid (LO w ((wr.heap.size,.cells #[.int .u8 3,.int .u64 (zt : Int)] 104 (0,0)) :: ks2) O7 (.slice s5 O7.length d5) (wr.alloc (.cells #[.int .u8 3,.int .u64 (zt : Int)] 104))) := Lib.hid (LG.keep HT.out _ _)
          generalize hzb : wr.heap.size = zb at H9 ⊢
          generalize World.alloc wr _ = W9 at H9 ⊢
          clear hzb c2 zw HT HC1
          obtain ⟨B,hB⟩ : ∃ B,znm x none rst1 = B := ⟨_,rfl⟩
          have ZT := Lib.hid (fun k => znm_take x k none rst1)
          have HB := Lib.hid hB
          have CLZ : Hid (∀ k,(O7 ++ bitsOf ((znm x none (rst1.take k)).map (fun v => (Cd.zet zt,v)))).length <= 5243040) := Lib.hid (fun k => by
           have h1 := LL.out
           rw [LY3.out,List.length_append] at h1
           have h2 := bits_take_le ((znm x none rst1).map (fun v => (Cd.zet zt,v))) k
           rw [<- List.map_take,<- znm_take] at h2
           rw [List.length_append]
           omega)
          clear hB
          go_wp2_with fail
          go_loopw [11,20] (fun v11 v20 wr => ∃ i : Nat,i <= nr /\ v20 = .int .i64 (i : Int) /\ LO w ((zb,.cells #[.int .u8 3,.int .u64 (zt : Int)] 104 (0,0)) :: ks2) (O7 ++ bitsOf ((znm x none (rst1.take i)).map (fun v => (Cd.zet zt,v)))) v11 wr)
           (fun _ v20 _ => nr - (intOf v20).toNat)
          case atStart => exact ⟨0,Nat.zero_le _,rfl,by rw [List.take_zero]; unfold znm; rw [List.map_nil,bitsOf_nil,List.append_nil]; exact H9.out⟩
          case round =>
           obtain ⟨j,hjn,rfl,hU⟩ := hrel
           rename World => wq
           obtain ⟨s9,d9,rfl⟩ := own_shape hU.2.1
           have HU := Lib.hid hU
           clear hU H9
           by_cases hjt : j < nr
           ·have hjr : j < rst1.length := by rw [HNR.out]; exact hjt
            obtain ⟨g,rfl,p0⟩ := HC2.out wq (fun p hp => (HU.out.2.2 p (List.mem_cons_of_mem _ hp)).1) j (.int .u32 (rst1[j] : Int)) (by unfold u32V; rw [List.getElem?_map,List.getElem?_eq_getElem hjr]; rfl)
            obtain ⟨v,hv⟩ : ∃ v,rst1[j] = v := ⟨_,rfl⟩
            have hvb : v < 65536 := by rw [<- hv]; exact HLr.out.2 _ (List.getElem_mem hjr)
            rw [hv] at p0
            have TK : Hid (rst1.take (j + 1) = rst1.take j ++ [v]) := Lib.hid (by rw [List.take_succ_eq_append_getElem hjr,hv])
            obtain ⟨v0,hv0⟩ : ∃ v0,resN x (rst1.take j).getLast? v = v0 := ⟨_,rfl⟩
            have SN : Hid (znm x none (rst1.take (j + 1)) = znm x none (rst1.take j) ++ [v0]) := Lib.hid (by rw [TK.out,znm_snoc,<- hv0]; cases (rst1.take j).getLast? <;> rfl)
            have V0 := Lib.hid hv0
            have hv9 : v0 < 262144 := NKZ.out v0 (by
             have h1 : v0 ∈ znm x none (rst1.take (j + 1)) := by rw [SN.out]; exact List.mem_append_right _ (List.mem_cons_self ..)
             rw [znm_take] at h1
             exact List.mem_of_mem_take h1)
            obtain ⟨O8,hO8⟩ : ∃ O,O7 ++ bitsOf ((znm x none (rst1.take j)).map (fun v => (Cd.zet zt,v))) = O := ⟨_,rfl⟩
            rw [hO8] at HU ⊢
            have LS : Hid (O7 ++ bitsOf ((znm x none (rst1.take (j + 1))).map (fun v => (Cd.zet zt,v))) = O8 ++ cb (.zet zt) v0) := Lib.hid (by
             rw [SN.out,List.map_append,bitsOf_append,<- List.append_assoc,hO8]
             simp [bitsOf_cons,bitsOf_nil])
            have CL8 : O8.length + (cb (.zet zt) v0).length <= 5243040 := by
             have h1 := CLZ.out (j + 1)
             rw [LS.out,List.length_append] at h1
             exact h1
            have C3 : Hid (O8.length + (cb (.zet zt) v0).length <= maxLen) := Lib.hid (by simp only [maxLen]; omega)
            have C4 : Hid ((O8.length + (cb (.zet zt) v0).length) * 1 <= 140737488355328) := Lib.hid (by omega)
            have BZ := Lib.hid (fun W => dbits_zet zt v0 (by omega) (by omega) (by omega) W)
            clear hv0 hO8 CL8
            by_cases h0 : j = 0
            ·subst h0
             have ZG := Lib.hid (fun W => dzig_any v x hvb m5 W)
             have V1 : Hid (zig ((v : Int) - (x : Int)) = v0) := Lib.hid (by rw [<- V0.out,List.take_zero]; rfl)
             rw [V1.out] at ZG
             have Z7 : Hid (IntKind.u64.wrap (v0 : Int) = (v0 : Int)) := Lib.hid (IntWalk.u64_in _ (by omega))
             clear hv
             go_upto_region 38 with fail
             have HTD : Hid (LO w ((zb,.cells #[.int .u8 3,.int .u64 (zt : Int)] 104 (0,0)) :: ks2) O8 (.slice s9 O8.length d9) wq.drew) := Lib.hid (LG.drew HU.out)
             have r9 := HTD.out.row (List.mem_cons_self ..)
             have c0 : wq.drew.cell? ⟨zb,0,none⟩ = some (.int .u8 3) := by rw [cell_of_row _ _ _ _ _ _ r9]; rfl
             have c1 : wq.drew.cell? ⟨zb,1,none⟩ = some (.int .u64 (zt : Int)) := by rw [cell_of_row _ _ _ _ _ _ r9]; rfl
             clear r9
             --R38
             go_region_law (first
              | (go_simp; go_at_call 94; (with_reducible refine (ZG.out _).mono ?_); rintro e W6 ⟨rfl,rfl⟩; dsimp only)
              | (go_simp; go_at_call 90; rw [Z7.out]; (with_reducible refine (BZ.out _).mono ?_); rintro e W6 ⟨v6,rfl,o6,k6⟩; have pu := HTD.out.own k6; have ks := Nat.le_trans HTD.out.low.size k6.size; dsimp only)
              | (refine wp_append_row _ (by rfl) (.tmp 176) (.tmp 184) 26 rfl w.heap.size wq.heap.size 4 i0 (.bool false) 1 Tryz.underlying26 hi hz0 hz1 hz2 rfl _ _ _ rfl pu _ _ _ rfl o6 (bls_one _) C3.out C4.out ks ?_; intro v7 W7 own7 hg7 hw7; have N2 := Lib.hid (HTD.out.put k6 own7 hg7 hw7); obtain ⟨a3,cap3,rfl⟩ := own_shape own7; clear own7 hg7 hw7))
             all_goals
              go_wp2_with fail
              go_roundw
             all_goals first | exact ⟨0 + 1,hjt,by go_num,by rw [LS.out]; exact N2.out⟩ | (simp [intOf]; omega)
            ·obtain ⟨q,hq⟩ : ∃ q,q + 1 = j := ⟨j - 1,by omega⟩
             have hqr : q < rst1.length := by rw [HNR.out]; omega
             obtain ⟨g2,eg,q0⟩ := HC2.out wq (fun p hp => (HU.out.2.2 p (List.mem_cons_of_mem _ hp)).1) q (.int .u32 (rst1[q] : Int)) (by unfold u32V; rw [List.getElem?_map,List.getElem?_eq_getElem hqr]; rfl)
             obtain rfl : g = g2 := by injection eg with eg; injection eg with eg
             have huv : rst1[q] < v := by
              have h2 := List.pairwise_iff_getElem.1 HLr.out.1 q j hqr hjr (by omega)
              omega
             have V1 := V0.out
             have LD : (rst1.take j).getLast? = some rst1[q] := by rw [<- hq,List.take_succ_eq_append_getElem hqr,List.getLast?_concat]
             rw [LD] at V1
             change v - _ - 1 = v0 at V1
             obtain ⟨u,hu⟩ : ∃ u,rst1[q] = u := ⟨_,rfl⟩
             rw [hu] at q0 huv V1
             have a1 : IntKind.i64.wrap ((j : Int) - 1) = (q : Int) := by rw [IntWalk.i64_in _ (by omega)]; omega
             have a2 : (q : Int) < (nr : Int) := by omega
             have a3 : (0 : Int) <= (q : Int) := Int.natCast_nonneg _
             have hib : ((j : Int) == 0) = false := beq_eq_false_iff_ne.2 (by omega)
             have Z8 := Lib.hid (rest_wrap v u v0 hvb huv V1)
             clear hu LD V1 huv eg hv hvb
             go_upto_region 39 with fail
             have HTD : Hid (LO w ((zb,.cells #[.int .u8 3,.int .u64 (zt : Int)] 104 (0,0)) :: ks2) O8 (.slice s9 O8.length d9) wq.drew) := Lib.hid (LG.drew HU.out)
             have r9 := HTD.out.row (List.mem_cons_self ..)
             have c0 : wq.drew.cell? ⟨zb,0,none⟩ = some (.int .u8 3) := by rw [cell_of_row _ _ _ _ _ _ r9]; rfl
             have c1 : wq.drew.cell? ⟨zb,1,none⟩ = some (.int .u64 (zt : Int)) := by rw [cell_of_row _ _ _ _ _ _ r9]; rfl
             clear r9
             --R39
             go_region_law (first
              | (go_simp; go_at_call 90; rw [Z8.out]; (with_reducible refine (BZ.out _).mono ?_); rintro e W6 ⟨v6,rfl,o6,k6⟩; have pu := HTD.out.own k6; have ks := Nat.le_trans HTD.out.low.size k6.size; dsimp only)
              | (refine wp_append_row _ (by rfl) (.tmp 186) (.tmp 200) 26 rfl w.heap.size wq.heap.size 4 i0 (.bool false) 1 Tryz.underlying26 hi hz0 hz1 hz2 rfl _ _ _ rfl pu _ _ _ rfl o6 (bls_one _) C3.out C4.out ks ?_; intro v7 W7 own7 hg7 hw7; have N2 := Lib.hid (HTD.out.put k6 own7 hg7 hw7); obtain ⟨a3,cap3,rfl⟩ := own_shape own7; clear own7 hg7 hw7))
             all_goals
              go_wp2_with fail
              go_roundw
             all_goals first | exact ⟨j + 1,hjt,by go_num,by rw [LS.out]; exact N2.out⟩ | (simp [intOf]; omega)
           ·have hje : j = nr := by omega
            subst hje
            have i5 : decide ((j : Int) < (j : Int)) = false := decide_eq_false (by omega)
            have TK : Hid (rst1.take j = rst1) := Lib.hid (List.take_of_length_le (by rw [HNR.out]; exact Nat.le_refl _))
            have FIN : Hid (lay x succ ref r p = O7 ++ bitsOf ((znm x none (rst1.take j)).map (fun v => (Cd.zet zt,v)))) := Lib.hid (by rw [TK.out,LY3.out])
            go_wp2_with fail
            go_ret
            rw [FIN.out]
            exact HU.out.post
def IV (w : World) (a : Option Addr) (l : List Nat) : Prop :=
 l.length <= 4611686018427387903 /\ ∀ i (h : i < l.length),∃ g o,a = some ⟨g,o,none⟩ /\ g < w.heap.size /\ w.cell? ⟨g,o + i,none⟩ = some (.int .i64 (l[i] : Int))
def chV (T : List Tk) : List Value := T.map fun (t : Tk) => Value.int .i64 (t.2 : Int)
theorem chV_length (T : List Tk) : (chV T).length = T.length := by unfold chV; rw [List.length_map]
theorem chV_snoc (T : List Tk) (t : Tk) : chV (T ++ [t]) = chV T ++ [.int .i64 (t.2 : Int)] := by unfold chV; rw [List.map_append]; rfl
section
variable {w W W' : World} {wr : Option (Nat × Bits)} {rd : Option (Nat × ByteArray × Nat)} {b : Bp} {T : List Tk} {l : Bits} {dr E qb : Nat} {gs : List (Nat × Obj)} {vL vC vB : Value} {V : List Value} {rs : List Rw} {ks : List (Nat × Obj)}
theorem rot3 {α : Type} (x y z : α) (r : List α) : List.Perm (x :: y :: z :: r) (z :: x :: y :: r) := (List.Perm.cons x (List.Perm.swap z y r)).trans (List.Perm.swap z x (y :: r))
end
theorem Rws.call2 {α : Type} {w W : World} {wr : Option (Nat × Bits)} {rd : Option (Nat × ByteArray × Nat)} {f : FuncId} {args : Array Value} {P : α → Ending → World → Prop} {wr' : α → Option (Nat × Bits)} {rd' : α → Option (Nat × ByteArray × Nat)} {F : α → List (Nat × Obj)} : ∀ {rs : List Rw} {K : List (Nat × Obj)}, Rws w wr rd rs K W →
  (∀ Kx,FS w wr rd (Kx ++ K) W -> (∀ p ∈ Kx,∀ q ∈ K,p.1 ≠ q.1) -> Calls Tryz.prog f args W fun e w' => ∃ x,P x e w' /\ (∀ p ∈ F x,(∃ o,(p.1,o) ∈ K) \/ W.heap.size <= p.1) /\ FS w (wr' x) (rd' x) (Kx ++ F x) w') -> Calls Tryz.prog f args W fun e w' => ∃ x,P x e w' /\ (∀ p ∈ F x,(∃ o,(p.1,o) ∈ K) \/ W.heap.size <= p.1) /\ Rws w (wr' x) (rd' x) rs (F x) w'
 | [],K,h,hc => (hc [] h (fun p hp => by cases hp)).mono (fun e w' h => h)
 | r :: rs,K,⟨ka,h1,h2,h3,h4⟩,hc => by
  have f := h4.fs
  refine Calls.mono (Rws.call2 (wr' := wr') (rd' := rd') (F := fun x => ka ++ F x) (P := fun x e w' => P x e w' /\ ∀ p ∈ F x,(∃ o,(p.1,o) ∈ K) \/ W.heap.size <= p.1) h4 (fun Kx hx hn => ?_)) ?_
  ·rw [<- List.append_assoc] at hx
   refine (hc _ hx (fun p hp q hq => ?_)).mono ?_
   ·rcases List.mem_append.1 hp with hp | hp
    ·exact hn p hp q (List.mem_append_right _ hq)
    ·exact fun e => h3 q hq (by rw [<- e]; exact h1.2 p hp)
   rintro e w' ⟨x,p1,p2,p3⟩
   refine ⟨x,⟨p1,p2⟩,fun p hp => ?_,by rw [<- List.append_assoc]; exact p3⟩
   rcases List.mem_append.1 hp with hp | hp
   ·exact .inl ⟨p.2,List.mem_append_left _ hp⟩
   ·rcases p2 p hp with ⟨o,ho⟩ | hl
    ·exact .inl ⟨o,List.mem_append_right _ ho⟩
    ·exact .inr hl
  ·rintro e w' ⟨x,⟨p1,p2⟩,_,p4⟩
   refine ⟨x,p1,p2,ka,h1,Rw.same h2 h1 f p4.fs,fun p hp e => ?_,p4⟩
   rcases p2 p hp with ⟨o,ho⟩ | hl
   ·exact h3 _ ho e
   ·obtain ⟨o,ho⟩ := h1.1 p.1 e.symm
    have := lt_of_block (f.row (b := p.1) (o := o) (List.mem_append_left _ ho))
    omega
section
variable {w W W2 : World} {b : Bp} {T T' : List Tk} {B L : Bits} {D E qb D' E' kb wb : Nat} {K K' : List (Nat × Obj)}
end
def rdRow (aB : Option Addr) (dB : Nat) (B : Bits) (p : Nat) : Obj := .cells #[.slice aB B.length dB, .int .i64 (p : Int)] 29 (0, 0)
def tkRow (rb : Nat) (bad : Bool) : Obj := .cells #[.pointer (some ⟨rb, 0, none⟩), .bool bad] 155 (0, 0)
def DTR (w : World) (wr : Option (Nat × Bits)) (rd : Option (Nat × ByteArray × Nat)) (rb : Nat) (aB : Option Addr) (dB : Nat) (B : Bits) (tb p : Nat) (bad : Bool) (rs : List Rw) (K : List (Nat × Obj)) (W : World) : Prop :=
 Rws w wr rd rs ((rb,rdRow aB dB B p) :: (tb,tkRow rb bad) :: K) W /\ (∀ q ∈ K,q.1 ≠ rb /\ q.1 ≠ tb) /\ tb ≠ rb /\ BSt K aB B /\ p <= B.length /\ B.length <= dB /\ B.length <= 4611686018427387903 /\ (aB = none /\ dB = 0 \/ ∃ g o,aB = some ⟨g,o,none⟩)
section
variable {w W W2 : World} {wr : Option (Nat × Bits)} {rd : Option (Nat × ByteArray × Nat)} {rb : Nat} {aB : Option Addr} {dB : Nat} {B : Bits} {tb p : Nat} {bad : Bool} {rs : List Rw} {K K' : List (Nat × Obj)}
theorem DTR.next (h : DTR w wr rd rb aB dB B tb p bad rs K W) (k : Below W.heap.size W W2) : DTR w wr rd rb aB dB B tb p bad rs K W2 := ⟨h.1.next k, h.2⟩
theorem DTR.drew (h : DTR w wr rd rb aB dB B tb p bad rs K W) : DTR w wr rd rb aB dB B tb p bad rs K W.drew := h.next (Below.drew (Below.refl _ _))
theorem DTR.below (h : DTR w wr rd rb aB dB B tb p bad rs K W) : Below w.heap.size w W := h.1.below
theorem DTR.has (h : DTR w wr rd rb aB dB B tb p bad rs K W) {q : Nat × Obj} (hq : q ∈ K) : W.heap[q.1]? = some q.2 := h.1.has (List.mem_cons_of_mem _ (List.mem_cons_of_mem _ hq))
theorem DTR.cells (h : DTR w wr rd rb aB dB B tb p bad rs K W) : W.cell? ⟨tb, 0, none⟩ = some (.pointer (some ⟨rb, 0, none⟩)) ∧ W.cell? ⟨tb, 1, none⟩ = some (.bool bad) ∧ ∀ j, W.frozen? ⟨tb, j, none⟩ = false := by
 have r : W.heap[tb]? = some (tkRow rb bad) := h.1.has (p := (tb,tkRow rb bad)) (List.mem_cons_of_mem _ (List.mem_cons_self ..))
 unfold tkRow at r
 exact ⟨by rw [cell_of_row _ _ _ _ _ _ r]; rfl,by rw [cell_of_row _ _ _ _ _ _ r]; rfl,fun j => frozen_of_row W tb j _ _ r⟩
theorem DTR.tk {Kx : List (Nat × Obj)} (h : DTR w wr rd rb aB dB B tb p bad rs K W) (f : FS w wr rd (Kx ++ ((rb, rdRow aB dB B p) :: (tb, tkRow rb bad) :: K)) W) (hn : ∀ q ∈ Kx, ∀ q' ∈ (rb, rdRow aB dB B p) :: (tb, tkRow rb bad) :: K, q.1 ≠ q'.1) : DTk w wr rd rb aB dB B tb p bad (Kx ++ K) W := by
 obtain ⟨-,h2,h3,h4,h5⟩ := h
 refine ⟨⟨f.sub (fun q hq => ?_),fun q hq => ?_,h4.more (fun q hq => by simp [hq]),h5⟩,fun q hq => ?_,h4.more (fun q hq => List.mem_append_right _ hq)⟩
 ·simp only [List.mem_cons,List.mem_append] at hq ⊢
  rcases hq with hq | hq | hq | hq
  ·exact .inr (.inl hq)
  ·exact .inr (.inr (.inl hq))
  ·exact .inl hq
  ·exact .inr (.inr (.inr hq))
 ·simp only [List.mem_cons,List.mem_append] at hq
  rcases hq with rfl | hq | hq
  ·exact h3
  ·exact hn q hq (rb,rdRow aB dB B p) (List.mem_cons_self ..)
  ·exact (h2 q hq).1
 ·rcases List.mem_append.1 hq with hq | hq
  ·exact hn q hq (tb,tkRow rb bad) (List.mem_cons_of_mem _ (List.mem_cons_self ..))
  ·exact (h2 q hq).2
theorem DTk.back {Kx : List (Nat × Obj)} (h : DTk w wr rd rb aB dB B tb p bad (Kx ++ K) W) : FS w wr rd (Kx ++ ((rb, rdRow aB dB B p) :: (tb, tkRow rb bad) :: K)) W ∧ p ≤ B.length :=
 ⟨h.1.1.sub (fun q hq => by
  simp only [List.mem_cons,List.mem_append] at hq ⊢
  rcases hq with hq | hq | hq | hq
  ·exact .inr (.inr (.inl hq))
  ·exact .inl hq
  ·exact .inr (.inl hq)
  ·exact .inr (.inr (.inr hq))),h.1.2.2.2.1⟩
theorem DTk.rows (h : DTk w wr rd rb aB dB B tb p bad K W) : DTR w wr rd rb aB dB B tb p bad [] K W :=
 ⟨h.1.1,fun q hq => ⟨h.1.2.1 q (List.mem_cons_of_mem _ hq),h.2.1 q hq⟩,h.ne,h.2.2,h.1.2.2.2⟩
theorem DTR.lone (h : DTR w wr rd rb aB dB B tb p bad rs K W) : DTk w wr rd rb aB dB B tb p bad K W :=
 DTR.tk (Kx := []) h h.1.fs (fun q hq => by cases hq)
theorem DTR.mark (h : DTR w wr rd rb aB dB B tb p bad rs K W) (b : Bool) : DTR w wr rd rb aB dB B tb p b rs K (W.setCell ⟨tb, 1, none⟩ (.bool b)) := by
 obtain ⟨h1,h2,h3,h4,h5⟩ := h
 have f := (h1.sub (K' := (tb,.cells #[.pointer (some ⟨rb,0,none⟩),.bool bad] 155 (0,0)) :: (rb,rdRow aB dB B p) :: K) (fun q hq => by
  simp only [List.mem_cons] at hq ⊢
  rcases hq with hq | hq | hq
  ·exact .inr (.inl hq)
  ·exact .inl hq
  ·exact .inr (.inr hq))).store (j := 1) (.bool b) (fun q hq => by
  rcases List.mem_cons.1 hq with rfl | hq
  ·exact fun e => h3 e.symm
  ·exact (h2 q hq).2)
 refine ⟨f.sub (fun q hq => ?_),h2,h3,h4,h5⟩
 simp only [List.mem_cons] at hq ⊢
 rcases hq with hq | hq | hq
 ·exact .inr (.inl hq)
 ·exact .inl hq
 ·exact .inr (.inr hq)
theorem DTR.lift {T : TypeId} (h : DTR w wr rd rb aB dB B tb p bad rs K W) : DTR w wr rd rb aB dB B tb p bad (⟨T, .slice none 0 0, []⟩ :: rs) K W := ⟨h.1.lift, h.2⟩
theorem DTR.own {r : Rw} (h : DTR w wr rd rb aB dB B tb p bad (r :: rs) K W) : r.owned W := h.1.own
theorem DTR.push {v v' : Value} {T : TypeId} {xs xs' : List Value} (h : DTR w wr rd rb aB dB B tb p bad (⟨T, v, xs⟩ :: rs) K W) (own : W2.ownsRow 0 T 1 v' xs'.length xs') (hg : W.grownBy W2 v.ownBlock) (hw : v'.ownBlock = v.ownBlock ∨ v'.ownBlock = some W.heap.size) : DTR w wr rd rb aB dB B tb p bad (⟨T, v', xs'⟩ :: rs) K W2 := ⟨h.1.push own hg hw, h.2⟩
def DTakeR (w : World) (wr : Option (Nat × Bits)) (rd : Option (Nat × ByteArray × Nat)) (rb : Nat) (aB : Option Addr) (dB : Nat) (B : Bits) (tb : Nat) (rs : List Rw) (K : List (Nat × Obj)) (z : Option (Nat × Nat)) (most : Nat) (bad : Bool) (e : Ending) (w' : World) : Prop :=
 ∃ (v p' : Nat) (bad' : Bool),e = .returned (.int .i64 (v : Int)) /\ TakeD z most bad v p' bad' /\ DTR w wr rd rb aB dB B tb p' bad' rs K w'
theorem DTR.take (h : DTR w wr rd rb aB dB B tb p bad rs K W) (c : Cd) (hc : c.ok) (most : Nat) (hm : most ≤ 1000000) :
  Calls Tryz.prog 87 #[.pointer (some ⟨tb,0,none⟩),cdV c,.int .i64 (most : Int)] W (DTakeR w wr rd rb aB dB B tb rs K (ls.tk B c most p) most bad) := by
 refine (Rws.call2 (α := Nat × Nat × Bool) (P := fun x e w' => e = .returned (.int .i64 (x.1 : Int)) /\ TakeD (ls.tk B c most p) most bad x.1 x.2.1 x.2.2 /\ x.2.1 <= B.length) (wr' := fun _ => wr) (rd' := fun _ => rd)
  (F := fun x => (rb,rdRow aB dB B x.2.1) :: (tb,tkRow rb x.2.2) :: K) h.1 (fun Kx hx hn => ?_)).mono ?_
 ·refine ((h.tk hx hn).take c hc most hm).mono ?_
  rintro e w' ⟨v,p', bad', rfl,h1,h2⟩
  have h3 := h2.back
  refine ⟨(v,p', bad'),⟨rfl,h1,h3.2⟩,fun q hq => ?_,h3.1⟩
  simp only [List.mem_cons] at hq
  rcases hq with rfl | rfl | hq
  ·exact .inl ⟨_,List.mem_cons_self ..⟩
  ·exact .inl ⟨_,List.mem_cons_of_mem _ (List.mem_cons_self ..)⟩
  ·exact .inl ⟨q.2,List.mem_cons_of_mem _ (List.mem_cons_of_mem _ hq)⟩
 ·rintro e w' ⟨⟨v,p', bad'⟩,⟨rfl,h1,h2⟩,_,h3⟩
  exact ⟨v,p', bad', rfl,h1,h3,h.2.1,h.2.2.1,h.2.2.2.1,h2,h.2.2.2.2.2⟩
end
theorem u32V_length (l : List Nat) : (u32V l).length = l.length := by unfold u32V; rw [List.length_map]
theorem tk_less {B : Bits} {c : Cd} {L m a v e : Nat} (h : tk B c L a = some (v, e)) (hv : v ≤ m) : tk B c m a = some (v, e) := by
 unfold tk at h ⊢
 cases hr : rd c (B.drop a) with
 | none => rw [hr] at h; cases h
 | some q =>
  rw [hr] at h
  simp only [Option.bind_some] at h ⊢
  split at h
  ·cases h; exact if_pos hv
  ·cases h
theorem tk_over {B : Bits} {c : Cd} {L m a v e : Nat} (h : tk B c L a = some (v, e)) (hv : m < v) : tk B c m a = none := by
 unfold tk at h ⊢
 cases hr : rd c (B.drop a) with
 | none => rfl
 | some q =>
  rw [hr] at h
  simp only [Option.bind_some] at h ⊢
  split at h
  ·cases h; exact if_neg (by omega)
  ·cases h
theorem tk_none {B : Bits} {c : Cd} {L m a : Nat} (h : tk B c L a = none) (hm : m ≤ L) : tk B c m a = none := by
 unfold tk at h ⊢
 cases hr : rd c (B.drop a) with
 | none => rfl
 | some q =>
  rw [hr] at h
  simp only [Option.bind_some] at h ⊢
  split at h
  ·cases h
  ·exact if_neg (by omega)
theorem DTR.less {w W : World} {wr : Option (Nat × Bits)} {rd : Option (Nat × ByteArray × Nat)} {rb : Nat} {aB : Option Addr} {dB : Nat} {B : Bits} {tb p : Nat} {bad : Bool} {rs : List Rw} {K K' : List (Nat × Obj)} (h : DTR w wr rd rb aB dB B tb p bad rs K W) (hs : ∀ q ∈ K', q ∈ K) (hb : BSt K' aB B) : DTR w wr rd rb aB dB B tb p bad rs K' W :=
 ⟨h.1.sub (fun q hq => by
  simp only [List.mem_cons] at hq ⊢
  rcases hq with hq | hq | hq
  ·exact .inl hq
  ·exact .inr (.inl hq)
  ·exact .inr (.inr (hs q hq))),fun q hq => h.2.1 q (hs q hq),h.2.2.1,hb,h.2.2.2.2⟩
def ListD (P : List Nat → Nat → Bool → Prop) (w : World) (wr : Option (Nat × Bits)) (rd : Option (Nat × ByteArray × Nat)) (rb : Nat) (aB : Option Addr) (dB : Nat) (B : Bits) (tb : Nat) (K : List (Nat × Obj)) (e : Ending) (w' : World) : Prop :=
 ∃ (v : Value) (l : List Nat) (p' : Nat) (bad : Bool),e = .returned v /\ P l p' bad /\ DTR w wr rd rb aB dB B tb p' bad [⟨77,v,u32V l⟩] K w'
def CopL (F : Option (List Nat × Nat)) (B : Bits) (ref : List Nat) (z i k : Nat) (l : List Nat) (p : Nat) (bad : Bool) : Prop :=
 i <= z /\ k <= ref.length /\ l.length <= k /\ (∀ v ∈ l,v < 65536) /\ (bad = true -> F = none) /\ (bad = false -> F = (cpy B (z - i) i (ref.drop k) p).map fun t => (if z % 2 = 0 then l ++ t.1 ++ t.2.1 else l ++ t.1,t.2.2))
theorem cpy_none {B : Bits} {c i : Nat} {ref : List Nat} {p v e L : Nat} (h : tk B .gam L p = some (v, e)) (hv : ref.length < v + min i 1) : cpy B (c + 1) i ref p = none := by
 unfold cpy
 by_cases h2 : v <= ref.length
 ·rw [tk_less h h2]
  exact if_pos hv
 ·rw [tk_over h (by omega)]
  rfl
theorem CopL.no {F : Option (List Nat × Nat)} {B : Bits} {ref : List Nat} {z i k p v p2 : Nat} {l : List Nat} {bad2 : Bool} (h : CopL F B ref z i k l p false) (hi : i < z) (ht : TakeD (tk B .gam ref.length p) ref.length false v p2 bad2) (hv : ref.length - k < v + min i 1) : F = none := by
 obtain ⟨h1,h2,h3,h4,h5,h6⟩ := h
 obtain ⟨t1,t2,t3⟩ := ht
 have e := h6 rfl
 rw [show z - i = (z - i - 1) + 1 by omega] at e
 cases hk : tk B .gam ref.length p with
 | none =>
  rw [e]
  have : cpy B (z - i - 1 + 1) i (ref.drop k) p = none := by
   unfold cpy
   rw [tk_none hk (by rw [List.length_drop]; omega)]
   rfl
  rw [this]
  rfl
 | some q =>
  obtain ⟨rfl,rfl,-⟩ := t1 q hk rfl
  rw [e,cpy_none (e := q.2) (v := q.1) hk (by rw [List.length_drop]; exact hv)]
  rfl
theorem CopL.step {F : Option (List Nat × Nat)} {B : Bits} {ref : List Nat} {z i k p v p2 : Nat} {l : List Nat} {bad2 : Bool} (h : CopL F B ref z i k l p false) (hb : ∀ v ∈ ref, v < 65536) (hi : i < z) (ht : TakeD (tk B .gam ref.length p) ref.length false v p2 bad2) (hv : v + min i 1 ≤ ref.length - k) :
  CopL F B ref z (i + 1) (k + (v + min i 1)) (if i % 2 = 0 then l ++ (ref.drop k).take (v + min i 1) else l) p2 bad2 := by
 obtain ⟨h1,h2,h3,h4,h5,h6⟩ := h
 obtain ⟨t1,t2,t3⟩ := ht
 have e := h6 rfl
 rw [show z - i = (z - (i + 1)) + 1 by omega] at e
 refine ⟨by omega,by omega,?_,?_,fun hb2 => ?_,fun hb2 => ?_⟩
 ·split
  ·rw [List.length_append,List.length_take,List.length_drop]; omega
  ·omega
 ·intro x hx
  split at hx
  ·rcases List.mem_append.1 hx with hx | hx
   ·exact h4 x hx
   ·exact hb x (List.mem_of_mem_drop (List.mem_of_mem_take hx))
  ·exact h4 x hx
 ·cases hk : tk B .gam ref.length p with
  | some q => have := (t1 q hk rfl).2.2; rw [hb2] at this; cases this
  | none =>
   have : cpy B (z - (i + 1) + 1) i (ref.drop k) p = none := by
    unfold cpy
    rw [tk_none hk (by rw [List.length_drop]; omega)]
    rfl
   rw [e,this]
   rfl
 ·cases hk : tk B .gam ref.length p with
  | none => have := (t2 (.inr hk)).2; rw [hb2] at this; cases this
  | some q =>
   obtain ⟨rfl,rfl,-⟩ := t1 q hk rfl
   have hq : tk B .gam (ref.drop k).length p = some (q.1,q.2) := tk_less (L := ref.length) hk (by rw [List.length_drop]; omega)
   have ec : cpy B (z - (i + 1) + 1) i (ref.drop k) p = (cpy B (z - (i + 1)) (i + 1) ((ref.drop k).drop (q.1 + min i 1)) q.2).map fun t => ((if i % 2 = 0 then (ref.drop k).take (q.1 + min i 1) else []) ++ t.1,t.2) := by
    rw [cpy,hq]
    exact if_neg (by rw [List.length_drop]; omega)
   rw [e,ec,List.drop_drop,Option.map_map]
   refine congrArg (fun f => Option.map f _) (funext fun t => ?_)
   by_cases h0 : i % 2 = 0
   ·rw [if_pos h0]
    simp only [Function.comp,if_pos h0,List.append_assoc]
   ·rw [if_neg h0]
    simp only [Function.comp,if_neg h0,List.nil_append]
theorem CopL.fin {F : Option (List Nat × Nat)} {B : Bits} {ref : List Nat} {z i k p : Nat} {l : List Nat} {bad : Bool} (h : CopL F B ref z i k l p bad) (hb : ∀ v ∈ ref, v < 65536) (he : i = z ∨ bad = true) :
  CopP F ref.length (if z % 2 = 0 then l ++ ref.drop k else l) p bad := by
 obtain ⟨h1,h2,h3,h4,h5,h6⟩ := h
 refine ⟨?_,?_,h5,fun hbd => ?_⟩
 ·split
  ·rw [List.length_append,List.length_drop]; omega
  ·omega
 ·intro x hx
  split at hx
  ·rcases List.mem_append.1 hx with hx | hx
   ·exact h4 x hx
   ·exact hb x (List.mem_of_mem_drop hx)
  ·exact h4 x hx
 ·rcases he with rfl | he
  ·rw [h6 hbd,Nat.sub_self]
   show some ((if i % 2 = 0 then l ++ [] ++ ref.drop k else l ++ []),p) = some (_,p)
   by_cases h0 : i % 2 = 0
   ·rw [if_pos h0,if_pos h0,List.append_nil]
   ·rw [if_neg h0,if_neg h0,List.append_nil]
  ·rw [hbd] at he; cases he
def CopS (w : World) (wr : Option (Nat × Bits)) (rd : Option (Nat × ByteArray × Nat)) (rb : Nat) (aB : Option Addr) (dB : Nat) (B : Bits) (tb : Nat) (K : List (Nat × Obj)) (F : Option (List Nat × Nat)) (ref : List Nat) (z : Nat) (v7 v8 v9 : Value) (wl : World) : Prop :=
 ∃ (i k : Nat) (l : List Nat) (p' : Nat) (bad : Bool),v8 = .int .i64 (k : Int) /\ v9 = .int .i64 (i : Int) /\ CopL F B ref z i k l p' bad /\ DTR w wr rd rb aB dB B tb p' bad [⟨77,v7,u32V l⟩] K wl
set_option maxRecDepth 100000 in
set_option maxHeartbeats 6400000 in
theorem dcopies_some {w W : World} {wr : Option (Nat × Bits)} {rd : Option (Nat × ByteArray × Nat)} {rb : Nat} {aB : Option Addr} {dB : Nat} {B : Bits} {tb p : Nat} {K : List (Nat × Obj)} (h : DTk w wr rd rb aB dB B tb p false K W)
  (ad : Addr) (ref : List Nat) (cap : Nat) (hcap : ref.length <= cap) (hlen : ref.length <= 65536) (hb : ∀ v ∈ ref,v < 65536) (hA : Seen w K (some ad) ref) :
  Calls Tryz.prog 84 #[.pointer (some ⟨tb,0,none⟩),.slice (some ad) ref.length cap] W (ListD (CopP (copies B ref p) ref.length) w wr rd rb aB dB B tb K) := by
 obtain ⟨j0,hj,hj0,hj1,hj2⟩ := info_parts Tryz.infoU32
 have HB6 := Lib.hid h.2.2
 have h9 := h.add #[.int .u8 1,.int .u64 0] 104
 obtain ⟨cb,hcb⟩ : ∃ z,W.heap.size = z := ⟨_,rfl⟩
 rw [hcb] at h9
 obtain ⟨K2,hK2⟩ : ∃ K', (cb,Obj.cells #[.int .u8 1,.int .u64 0] 104 (0,0)) :: K = K' := ⟨_,rfl⟩
 rw [hK2] at h9
 have H0 := Lib.hid (h9.rows.lift (T := 77))
 have CC : Hid (∀ W' p' bad rs,DTR w wr rd rb aB dB B tb p' bad rs K2 W' -> W'.cell? ⟨cb,0,none⟩ = some (.int .u8 1) /\ W'.cell? ⟨cb,1,none⟩ = some (.int .u64 0)) := Lib.hid (fun W' p' bad rs h => by
  have r : W'.heap[cb]? = some (.cells #[.int .u8 1,.int .u64 0] 104 (0,0)) := h.has (q := (cb,_)) (by rw [<- hK2]; exact List.mem_cons_self ..)
  exact ⟨by rw [cell_of_row _ _ _ _ _ _ r]; rfl,by rw [cell_of_row _ _ _ _ _ _ r]; rfl⟩)
 have LS : Hid (∀ W' p' bad rs,DTR w wr rd rb aB dB B tb p' bad rs K2 W' -> DTR w wr rd rb aB dB B tb p' bad rs K W') := Lib.hid (fun W' p' bad rs h => h.less (fun q hq => by rw [<- hK2]; exact List.mem_cons_of_mem _ hq) HB6.out)
 have HA := Lib.hid (And.intro hA hb)
 have LVS := Lib.hid (fun W' p' bad rs (h : DTR w wr rd rb aB dB B tb p' bad rs K2 W') => hA W' h.below (fun q hq => (LS.out _ _ _ _ h).has hq))
 have TT : Hid (∀ W' p' bad rs (_ : DTR w wr rd rb aB dB B tb p' bad rs K2 W') (mi : Int) (most : Nat) (_ : mi = (most : Int)) (_ : most <= 1000000),Calls Tryz.prog 87 #[.pointer (some ⟨tb,0,none⟩),cdV .gam,.int .i64 mi] W' (DTakeR w wr rd rb aB dB B tb rs K2 (tk B .gam most p') most bad)) := Lib.hid (fun W' p' bad rs h mi most e hm => by
  subst e
  exact h.take .gam trivial most hm)
 obtain ⟨F,hF⟩ : ∃ F,copies B ref p = F := ⟨_,rfl⟩
 have HF : Hid (F = (tk B .gam (ref.length + 1) p).bind fun q => (cpy B q.1 0 ref q.2).map fun t => (if q.1 % 2 = 0 then t.1 ++ t.2.1 else t.1,t.2.2)) := Lib.hid (by rw [<- hF]; rfl)
 rw [hF]
 unfold cdV at TT
 obtain ⟨n0,hn0⟩ : ∃ n,ref.length = n := ⟨_,rfl⟩
 have HN := Lib.hid hn0
 rw [hn0] at hcap hlen HF ⊢
 have T1 := Lib.hid (TT.out _ _ _ _ H0.out ((n0 : Int) + 1) (n0 + 1) (by omega) (by omega))
 obtain ⟨g0,g1⟩ := CC.out _ _ _ _ H0.out
 clear h hA hF hb hn0 h9 hK2
 go_enter Tryz.func84,Tryz.ntmps84
 go_wp2_with fail
 generalize World.alloc W _ = W0 at H0 T1 g0 g1 ⊢
 with_reducible refine T1.out.mono ?_
 rintro e w1 ⟨z,p1,bad1,rfl,hp,h1⟩
 have C1 : Hid (CopL F B ref z 0 0 [] p1 bad1) := Lib.hid (by
  obtain ⟨q1,q2,q3⟩ := hp
  refine ⟨Nat.zero_le _,Nat.zero_le _,Nat.le_refl _,fun v hv => (by cases hv),fun hb => ?_,fun hb => ?_⟩
  ·cases ht : tk B .gam (n0 + 1) p with
   | none => rw [HF.out,ht]; rfl
   | some q => have := (q1 q ht rfl).2.2; rw [hb] at this; cases this
  ·cases ht : tk B .gam (n0 + 1) p with
   | none => have := (q2 (.inr ht)).2; rw [hb] at this; cases this
   | some q =>
    obtain ⟨rfl,rfl,-⟩ := q1 q ht rfl
    rw [HF.out,ht]
    rfl)
 have hz : z <= n0 + 1 := hp.2.2
 have H1 := Lib.hid h1
 obtain ⟨g0,g1⟩ := CC.out _ _ _ _ h1
 clear hp h1 T1 HF H0
 go_wp2_with fail
 go_loopw [7,8,9] (fun v7 v8 v9 wl => CopS w wr rd rb aB dB B tb K2 F ref z v7 v8 v9 wl) (fun _ _ v9 _ => z - (intOf v9).toNat)
 case atStart => exact ⟨0,0,[],p1,bad1,rfl,rfl,C1.out,H1.out⟩
 case round =>
  rename World => wl
  obtain ⟨i,k,l,p', bad,rfl,rfl,hC,hD⟩ := hrel
  have CL := Lib.hid hC
  have D := Lib.hid hD
  obtain ⟨c1,c2,c3⟩ := hD.cells
  obtain ⟨g0,g1⟩ := CC.out _ _ _ _ hD
  have hi : i <= z := hC.1
  have hk : k <= n0 := by have := hC.2.1; rw [HN.out] at this; exact this
  clear hC hD
  by_cases hlt : i < z
  ·cases bad with
   | false =>
    --A
    have T2 := Lib.hid (TT.out _ _ _ _ D.out (n0 : Int) n0 rfl (by omega))
    have i1 : decide ((i : Int) < (z : Int)) = true := decide_eq_true (by omega)
    go_wp2_with fail
    with_reducible refine T2.out.mono ?_
    rintro e w2 ⟨v,p2,bad2,rfl,ht,h2⟩
    have D2 := Lib.hid h2
    have HT2 : Hid (TakeD (tk B .gam ref.length p') ref.length false v p2 bad2) := Lib.hid (by rw [HN.out]; exact ht)
    have hv9 : v <= n0 := ht.2.2
    obtain ⟨d1,d2,d3⟩ := h2.cells
    obtain ⟨g0,g1⟩ := CC.out _ _ _ _ h2
    clear ht h2 T2 c1 c2 c3 D
    obtain ⟨n1,hn1⟩ : ∃ n,v + min i 1 = n := ⟨_,rfl⟩
    have ws : IntKind.i64.wrap ((n0 : Int) - (k : Int)) = (n0 : Int) - (k : Int) := IntWalk.i64_in _ (by omega)
    by_cases hi0 : 0 < i
    ·have w1v : IntKind.i64.wrap ((v : Int) + 1) = (n1 : Int) := by rw [IntWalk.i64_in _ (by omega)]; omega
     have hn9 : n1 <= n0 + 1 := by omega
     have i0 : decide ((0 : Int) < (i : Int)) = true := decide_eq_true (by omega)
     obtain ⟨E,hE⟩ : ∃ z,k + n1 = z := ⟨_,rfl⟩
     have wk : IntKind.i64.wrap ((k : Int) + (n1 : Int)) = (E : Int) := by rw [IntWalk.i64_in _ (by omega)]; omega
     by_cases hov : n0 - k < n1
     ·have o1 : decide ((n0 : Int) - (k : Int) < (n1 : Int)) = true := decide_eq_true (by omega)
      have FN := Lib.hid (CL.out.no hlt HT2.out (by rw [HN.out,hn1]; exact hov))
      have D3 := Lib.hid ((D2.out.mark true).lone.rows.lift (T := 77))
      have d3 := d3 1
      clear HT2 hn1
      go_wp2_with fail
      exact bodyPost_ret (v := .slice none 0 0) (by simp [results,Tryz.results84,go_sem]) rfl ⟨.slice none 0 0,[],p2,true,rfl,⟨Nat.zero_le _,fun v hv => (by cases hv),fun _ => FN.out,fun h => (by cases h)⟩,LS.out _ _ _ _ D3.out⟩
     ·have o1 : decide ((n0 : Int) - (k : Int) < (n1 : Int)) = false := decide_eq_false (by omega)
      have ST : Hid (CopL F B ref z (i + 1) E (if i % 2 = 0 then l ++ (ref.drop k).take n1 else l) p2 bad2) := Lib.hid (by
       have h := CL.out.step HA.out.2 hlt HT2.out (by rw [HN.out,hn1]; omega)
       rw [hn1,hE] at h
       exact h)
      clear HT2 hn1 d1 d2 d3
      obtain ⟨r2,hr2⟩ : ∃ r,i % 2 = r := ⟨_,rfl⟩
      have t2 : (i : Int).tmod 2 = (r2 : Int) := by rw [Int.tmod_eq_emod_of_nonneg (by omega)]; omega
      have HR2 := Lib.hid hr2
      clear hr2
      by_cases hz2 : r2 = 0
      ·subst hz2
       have A6 := Lib.hid (LVS.out _ _ _ _ D2.out)
       obtain ⟨m7,hm7⟩ : ∃ z,l.length = z := ⟨_,rfl⟩
       have hl9 : m7 <= n0 := by have := CL.out.2.2.1; omega
       have OWN : Hid (w2.ownsRow 0 77 1 u7 m7 (u32V l)) := Lib.hid (by
        have h := D2.out.own
        unfold Rw.owned at h
        dsimp only at h
        rw [u32V_length,hm7] at h
        exact h)
       obtain ⟨s7,c7,e7⟩ := own_shape OWN.out
       subst e7
       obtain ⟨M,hM⟩ : ∃ M,(ref.drop k).take n1 = M := ⟨_,rfl⟩
       obtain ⟨mm,hmm⟩ : ∃ m,M.length = m := ⟨_,rfl⟩
       have hmm9 : mm = E - k := by rw [<- hmm,<- hM]; rw [List.length_take,List.length_drop,HN.out]; omega
       have HMM := Lib.hid hmm
       have HMQ := Lib.hid (And.intro hM hmm9)
       have C3 : Hid (m7 + mm <= maxLen) := Lib.hid (by simp only [maxLen]; omega)
       have C4 : Hid ((m7 + mm) * 4 <= 140737488355328) := Lib.hid (by omega)
       have HM7 := Lib.hid hm7
       rw [HR2.out,if_pos rfl,hM] at ST
       clear hm7 hmm
       have b1 : (0 : Int) <= (k : Int) := by omega
       have b2 : (k : Int) <= (E : Int) := by omega
       have b3 : (E : Int) <= (cap : Int) := by omega
       have b4 : E <= cap := by omega
       have b5 : k <= E := by omega
       clear hE
       subst hmm9
       by_cases hck : cap = k
       ·subst hck
        have hM0 : M = [] := List.eq_nil_of_length_eq_zero (by have := HMM.out; omega)
        subst hM0
        have C30 : Hid (m7 + 0 <= maxLen) := Lib.hid (by have := C3.out; omega)
        have C40 : Hid ((m7 + 0) * 4 <= 140737488355328) := Lib.hid (by have := C4.out; omega)
        go_wp2_with (at_builtin; refine wpList_append_lv _ rfl _ _ 34 rfl 0 77 j0 _ 4 Tryz.underlying34 hj hj0 hj1 hj2 rfl _ m7 _ rfl OWN.out (some ad) 0 0 ([] : List Nat) rfl rfl LV.nil C30.out C40.out (Nat.zero_le _) ?_)
        intro v8 w8 own8 hg8 hw8
        have D8 := Lib.hid (D2.out.push (v' := v8) (xs' := u32V (l ++ [])) (by rw [u32V_length,List.length_append,HM7.out,u32V_append]; exact own8) hg8 hw8)
        clear own8 hg8 hw8 OWN
        go_wp2_with fail
        go_roundw
        case rel => exact ⟨i + 1,E,l ++ [],p2,bad2,by go_num,by go_num,ST.out,D8.out⟩
        case measure => simp [intOf]; try omega
       ·have A7 : Hid (LV w2 (some (ad.add k)) M) := Lib.hid (by
         have h := A6.out.cut (k := k) (by rw [HN.out]; exact hcap) (by rw [HN.out]; exact hk)
         rw [if_neg hck] at h
         rw [<- HMQ.out.1]
         exact h.take n1)
        go_wp2_with (at_builtin; refine wpList_append_lv _ rfl _ _ 34 rfl 0 77 j0 _ 4 Tryz.underlying34 hj hj0 hj1 hj2 rfl _ m7 _ rfl OWN.out (some (ad.add k)) (E - k) (cap - k) M rfl HMM.out A7.out C3.out C4.out (Nat.zero_le _) ?_)
        intro v8 w8 own8 hg8 hw8
        have D8 := Lib.hid (D2.out.push (v' := v8) (xs' := u32V (l ++ M)) (by rw [u32V_length,List.length_append,HM7.out,HMM.out,u32V_append]; exact own8) hg8 hw8)
        clear own8 hg8 hw8 OWN
        go_wp2_with fail
        go_roundw
        case rel => exact ⟨i + 1,E,l ++ M,p2,bad2,by go_num,by go_num,ST.out,D8.out⟩
        case measure => simp [intOf]; try omega
      ·have i2 : ((r2 : Int) == 0) = false := beq_eq_false_iff_ne.2 (by omega)
       rw [HR2.out,if_neg hz2] at ST
       go_wp2_with fail
       go_roundw
       case rel => exact ⟨i + 1,E,l,p2,bad2,by go_num,by go_num,ST.out,D2.out⟩
       case measure => simp [intOf]; try omega
    ·have hvn : n1 = v := by omega
     subst hvn
     have i0 : decide ((0 : Int) < (i : Int)) = false := decide_eq_false (by omega)
     obtain ⟨E,hE⟩ : ∃ z,k + n1 = z := ⟨_,rfl⟩
     have wk : IntKind.i64.wrap ((k : Int) + (n1 : Int)) = (E : Int) := by rw [IntWalk.i64_in _ (by omega)]; omega
     by_cases hov : n0 - k < n1
     ·have o1 : decide ((n0 : Int) - (k : Int) < (n1 : Int)) = true := decide_eq_true (by omega)
      have FN := Lib.hid (CL.out.no hlt HT2.out (by rw [HN.out,hn1]; exact hov))
      have D3 := Lib.hid ((D2.out.mark true).lone.rows.lift (T := 77))
      have d3 := d3 1
      clear HT2 hn1
      go_wp2_with fail
      exact bodyPost_ret (v := .slice none 0 0) (by simp [results,Tryz.results84,go_sem]) rfl ⟨.slice none 0 0,[],p2,true,rfl,⟨Nat.zero_le _,fun v hv => (by cases hv),fun _ => FN.out,fun h => (by cases h)⟩,LS.out _ _ _ _ D3.out⟩
     ·have o1 : decide ((n0 : Int) - (k : Int) < (n1 : Int)) = false := decide_eq_false (by omega)
      have ST : Hid (CopL F B ref z (i + 1) E (if i % 2 = 0 then l ++ (ref.drop k).take n1 else l) p2 bad2) := Lib.hid (by
       have h := CL.out.step HA.out.2 hlt HT2.out (by rw [HN.out,hn1]; omega)
       rw [hn1,hE] at h
       exact h)
      clear HT2 hn1 d1 d2 d3
      obtain ⟨r2,hr2⟩ : ∃ r,i % 2 = r := ⟨_,rfl⟩
      have t2 : (i : Int).tmod 2 = (r2 : Int) := by rw [Int.tmod_eq_emod_of_nonneg (by omega)]; omega
      have HR2 := Lib.hid hr2
      clear hr2
      by_cases hz2 : r2 = 0
      ·subst hz2
       have A6 := Lib.hid (LVS.out _ _ _ _ D2.out)
       obtain ⟨m7,hm7⟩ : ∃ z,l.length = z := ⟨_,rfl⟩
       have hl9 : m7 <= n0 := by have := CL.out.2.2.1; omega
       have OWN : Hid (w2.ownsRow 0 77 1 u7 m7 (u32V l)) := Lib.hid (by
        have h := D2.out.own
        unfold Rw.owned at h
        dsimp only at h
        rw [u32V_length,hm7] at h
        exact h)
       obtain ⟨s7,c7,e7⟩ := own_shape OWN.out
       subst e7
       obtain ⟨M,hM⟩ : ∃ M,(ref.drop k).take n1 = M := ⟨_,rfl⟩
       obtain ⟨mm,hmm⟩ : ∃ m,M.length = m := ⟨_,rfl⟩
       have hmm9 : mm = E - k := by rw [<- hmm,<- hM]; rw [List.length_take,List.length_drop,HN.out]; omega
       have HMM := Lib.hid hmm
       have HMQ := Lib.hid (And.intro hM hmm9)
       have C3 : Hid (m7 + mm <= maxLen) := Lib.hid (by simp only [maxLen]; omega)
       have C4 : Hid ((m7 + mm) * 4 <= 140737488355328) := Lib.hid (by omega)
       have HM7 := Lib.hid hm7
       rw [HR2.out,if_pos rfl,hM] at ST
       clear hm7 hmm
       have b1 : (0 : Int) <= (k : Int) := by omega
       have b2 : (k : Int) <= (E : Int) := by omega
       have b3 : (E : Int) <= (cap : Int) := by omega
       have b4 : E <= cap := by omega
       have b5 : k <= E := by omega
       clear hE
       subst hmm9
       by_cases hck : cap = k
       ·subst hck
        have hM0 : M = [] := List.eq_nil_of_length_eq_zero (by have := HMM.out; omega)
        subst hM0
        have C30 : Hid (m7 + 0 <= maxLen) := Lib.hid (by have := C3.out; omega)
        have C40 : Hid ((m7 + 0) * 4 <= 140737488355328) := Lib.hid (by have := C4.out; omega)
        go_wp2_with (at_builtin; refine wpList_append_lv _ rfl _ _ 34 rfl 0 77 j0 _ 4 Tryz.underlying34 hj hj0 hj1 hj2 rfl _ m7 _ rfl OWN.out (some ad) 0 0 ([] : List Nat) rfl rfl LV.nil C30.out C40.out (Nat.zero_le _) ?_)
        intro v8 w8 own8 hg8 hw8
        have D8 := Lib.hid (D2.out.push (v' := v8) (xs' := u32V (l ++ [])) (by rw [u32V_length,List.length_append,HM7.out,u32V_append]; exact own8) hg8 hw8)
        clear own8 hg8 hw8 OWN
        go_wp2_with fail
        go_roundw
        case rel => exact ⟨i + 1,E,l ++ [],p2,bad2,by go_num,by go_num,ST.out,D8.out⟩
        case measure => simp [intOf]; try omega
       ·have A7 : Hid (LV w2 (some (ad.add k)) M) := Lib.hid (by
         have h := A6.out.cut (k := k) (by rw [HN.out]; exact hcap) (by rw [HN.out]; exact hk)
         rw [if_neg hck] at h
         rw [<- HMQ.out.1]
         exact h.take n1)
        go_wp2_with (at_builtin; refine wpList_append_lv _ rfl _ _ 34 rfl 0 77 j0 _ 4 Tryz.underlying34 hj hj0 hj1 hj2 rfl _ m7 _ rfl OWN.out (some (ad.add k)) (E - k) (cap - k) M rfl HMM.out A7.out C3.out C4.out (Nat.zero_le _) ?_)
        intro v8 w8 own8 hg8 hw8
        have D8 := Lib.hid (D2.out.push (v' := v8) (xs' := u32V (l ++ M)) (by rw [u32V_length,List.length_append,HM7.out,HMM.out,u32V_append]; exact own8) hg8 hw8)
        clear own8 hg8 hw8 OWN
        go_wp2_with fail
        go_roundw
        case rel => exact ⟨i + 1,E,l ++ M,p2,bad2,by go_num,by go_num,ST.out,D8.out⟩
        case measure => simp [intOf]; try omega
      ·have i2 : ((r2 : Int) == 0) = false := beq_eq_false_iff_ne.2 (by omega)
       rw [HR2.out,if_neg hz2] at ST
       go_wp2_with fail
       go_roundw
       case rel => exact ⟨i + 1,E,l,p2,bad2,by go_num,by go_num,ST.out,D2.out⟩
       case measure => simp [intOf]; try omega
   | true =>
    --B
    have FQ : Hid (CopP F n0 (if z % 2 = 0 then l ++ ref.drop k else l) p' true) := Lib.hid (by
     have h := CL.out.fin HA.out.2 (.inr rfl)
     rw [HN.out] at h
     exact h)
    obtain ⟨r2,hr2⟩ : ∃ r,z % 2 = r := ⟨_,rfl⟩
    have t2 : (z : Int).tmod 2 = (r2 : Int) := by rw [Int.tmod_eq_emod_of_nonneg (by omega)]; omega
    have HR2 := Lib.hid hr2
    clear hr2
    by_cases hz2 : r2 = 0
    ·subst hz2
     have A6 := Lib.hid (LVS.out _ _ _ _ D.out)
     obtain ⟨m7,hm7⟩ : ∃ z,l.length = z := ⟨_,rfl⟩
     have hl9 : m7 <= n0 := by have := CL.out.2.2.1; omega
     have OWN : Hid (wl.ownsRow 0 77 1 u7 m7 (u32V l)) := Lib.hid (by
      have h := D.out.own
      unfold Rw.owned at h
      dsimp only at h
      rw [u32V_length,hm7] at h
      exact h)
     obtain ⟨s7,c7,e7⟩ := own_shape OWN.out
     subst e7
     obtain ⟨M,hM⟩ : ∃ M,ref.drop k = M := ⟨_,rfl⟩
     obtain ⟨mm,hmm⟩ : ∃ m,M.length = m := ⟨_,rfl⟩
     have hmm9 : mm = n0 - k := by rw [<- hmm,<- hM]; rw [List.length_drop,HN.out]
     have HMM := Lib.hid hmm
     have HMQ := Lib.hid (And.intro hM hmm9)
     have C3 : Hid (m7 + mm <= maxLen) := Lib.hid (by simp only [maxLen]; omega)
     have C4 : Hid ((m7 + mm) * 4 <= 140737488355328) := Lib.hid (by omega)
     have HM7 := Lib.hid hm7
     rw [HR2.out,if_pos rfl,hM] at FQ
     clear hm7 hmm
     have b1 : (0 : Int) <= (k : Int) := by omega
     have b2 : (k : Int) <= (n0 : Int) := by omega
     have b3 : (n0 : Int) <= (cap : Int) := by omega
     subst hmm9
     by_cases hck : cap = k
     ·subst hck
      have hM0 : M = [] := List.eq_nil_of_length_eq_zero (by have := HMM.out; omega)
      subst hM0
      have C30 : Hid (m7 + 0 <= maxLen) := Lib.hid (by have := C3.out; omega)
      have C40 : Hid ((m7 + 0) * 4 <= 140737488355328) := Lib.hid (by have := C4.out; omega)
      go_wp2_with (at_builtin; refine wpList_append_lv _ rfl _ _ 34 rfl 0 77 j0 _ 4 Tryz.underlying34 hj hj0 hj1 hj2 rfl _ m7 _ rfl OWN.out (some ad) 0 0 ([] : List Nat) rfl rfl LV.nil C30.out C40.out (Nat.zero_le _) ?_)
      intro v8 w8 own8 hg8 hw8
      have D8 := Lib.hid (D.out.push (v' := v8) (xs' := u32V (l ++ [])) (by rw [u32V_length,List.length_append,HM7.out,u32V_append]; exact own8) hg8 hw8)
      clear own8 hg8 hw8 OWN
      go_wp2_with fail
      exact bodyPost_ret (v := v8) (by simp [results,Tryz.results84,go_sem]) rfl ⟨v8,l ++ [],p', _,rfl,FQ.out,LS.out _ _ _ _ D8.out⟩
     ·have A7 : Hid (LV wl (some (ad.add k)) M) := Lib.hid (by
       have h := A6.out.cut (k := k) (by rw [HN.out]; exact hcap) (by rw [HN.out]; exact hk)
       rw [if_neg hck] at h
       rw [<- HMQ.out.1]
       exact h)
      go_wp2_with (at_builtin; refine wpList_append_lv _ rfl _ _ 34 rfl 0 77 j0 _ 4 Tryz.underlying34 hj hj0 hj1 hj2 rfl _ m7 _ rfl OWN.out (some (ad.add k)) (n0 - k) (cap - k) M rfl HMM.out A7.out C3.out C4.out (Nat.zero_le _) ?_)
      intro v8 w8 own8 hg8 hw8
      have D8 := Lib.hid (D.out.push (v' := v8) (xs' := u32V (l ++ M)) (by rw [u32V_length,List.length_append,HM7.out,HMM.out,u32V_append]; exact own8) hg8 hw8)
      clear own8 hg8 hw8 OWN
      go_wp2_with fail
      exact bodyPost_ret (v := v8) (by simp [results,Tryz.results84,go_sem]) rfl ⟨v8,l ++ M,p', _,rfl,FQ.out,LS.out _ _ _ _ D8.out⟩
    ·have i2 : ((r2 : Int) == 0) = false := beq_eq_false_iff_ne.2 (by omega)
     rw [HR2.out,if_neg hz2] at FQ
     go_wp2_with fail
     exact bodyPost_ret (v := u7) (by simp [results,Tryz.results84,go_sem]) rfl ⟨u7,l,p', _,rfl,FQ.out,LS.out _ _ _ _ D.out⟩
  ·skip
   --C
   have hiz : i = z := by omega
   have i1 : decide ((i : Int) < (z : Int)) = false := decide_eq_false (by omega)
   have FQ : Hid (CopP F n0 (if z % 2 = 0 then l ++ ref.drop k else l) p' bad) := Lib.hid (by
    have h := CL.out.fin HA.out.2 (.inl hiz)
    rw [HN.out] at h
    exact h)
   obtain ⟨r2,hr2⟩ : ∃ r,z % 2 = r := ⟨_,rfl⟩
   have t2 : (z : Int).tmod 2 = (r2 : Int) := by rw [Int.tmod_eq_emod_of_nonneg (by omega)]; omega
   have HR2 := Lib.hid hr2
   clear hr2
   by_cases hz2 : r2 = 0
   ·subst hz2
    have A6 := Lib.hid (LVS.out _ _ _ _ D.out)
    obtain ⟨m7,hm7⟩ : ∃ z,l.length = z := ⟨_,rfl⟩
    have hl9 : m7 <= n0 := by have := CL.out.2.2.1; omega
    have OWN : Hid (wl.ownsRow 0 77 1 u7 m7 (u32V l)) := Lib.hid (by
     have h := D.out.own
     unfold Rw.owned at h
     dsimp only at h
     rw [u32V_length,hm7] at h
     exact h)
    obtain ⟨s7,c7,e7⟩ := own_shape OWN.out
    subst e7
    obtain ⟨M,hM⟩ : ∃ M,ref.drop k = M := ⟨_,rfl⟩
    obtain ⟨mm,hmm⟩ : ∃ m,M.length = m := ⟨_,rfl⟩
    have hmm9 : mm = n0 - k := by rw [<- hmm,<- hM]; rw [List.length_drop,HN.out]
    have HMM := Lib.hid hmm
    have HMQ := Lib.hid (And.intro hM hmm9)
    have C3 : Hid (m7 + mm <= maxLen) := Lib.hid (by simp only [maxLen]; omega)
    have C4 : Hid ((m7 + mm) * 4 <= 140737488355328) := Lib.hid (by omega)
    have HM7 := Lib.hid hm7
    rw [HR2.out,if_pos rfl,hM] at FQ
    clear hm7 hmm
    have b1 : (0 : Int) <= (k : Int) := by omega
    have b2 : (k : Int) <= (n0 : Int) := by omega
    have b3 : (n0 : Int) <= (cap : Int) := by omega
    subst hmm9
    by_cases hck : cap = k
    ·subst hck
     have hM0 : M = [] := List.eq_nil_of_length_eq_zero (by have := HMM.out; omega)
     subst hM0
     have C30 : Hid (m7 + 0 <= maxLen) := Lib.hid (by have := C3.out; omega)
     have C40 : Hid ((m7 + 0) * 4 <= 140737488355328) := Lib.hid (by have := C4.out; omega)
     go_wp2_with (at_builtin; refine wpList_append_lv _ rfl _ _ 34 rfl 0 77 j0 _ 4 Tryz.underlying34 hj hj0 hj1 hj2 rfl _ m7 _ rfl OWN.out (some ad) 0 0 ([] : List Nat) rfl rfl LV.nil C30.out C40.out (Nat.zero_le _) ?_)
     intro v8 w8 own8 hg8 hw8
     have D8 := Lib.hid (D.out.push (v' := v8) (xs' := u32V (l ++ [])) (by rw [u32V_length,List.length_append,HM7.out,u32V_append]; exact own8) hg8 hw8)
     clear own8 hg8 hw8 OWN
     go_wp2_with fail
     exact bodyPost_ret (v := v8) (by simp [results,Tryz.results84,go_sem]) rfl ⟨v8,l ++ [],p', _,rfl,FQ.out,LS.out _ _ _ _ D8.out⟩
    ·have A7 : Hid (LV wl (some (ad.add k)) M) := Lib.hid (by
      have h := A6.out.cut (k := k) (by rw [HN.out]; exact hcap) (by rw [HN.out]; exact hk)
      rw [if_neg hck] at h
      rw [<- HMQ.out.1]
      exact h)
     go_wp2_with (at_builtin; refine wpList_append_lv _ rfl _ _ 34 rfl 0 77 j0 _ 4 Tryz.underlying34 hj hj0 hj1 hj2 rfl _ m7 _ rfl OWN.out (some (ad.add k)) (n0 - k) (cap - k) M rfl HMM.out A7.out C3.out C4.out (Nat.zero_le _) ?_)
     intro v8 w8 own8 hg8 hw8
     have D8 := Lib.hid (D.out.push (v' := v8) (xs' := u32V (l ++ M)) (by rw [u32V_length,List.length_append,HM7.out,HMM.out,u32V_append]; exact own8) hg8 hw8)
     clear own8 hg8 hw8 OWN
     go_wp2_with fail
     exact bodyPost_ret (v := v8) (by simp [results,Tryz.results84,go_sem]) rfl ⟨v8,l ++ M,p', _,rfl,FQ.out,LS.out _ _ _ _ D8.out⟩
   ·have i2 : ((r2 : Int) == 0) = false := beq_eq_false_iff_ne.2 (by omega)
    rw [HR2.out,if_neg hz2] at FQ
    go_wp2_with fail
    exact bodyPost_ret (v := u7) (by simp [results,Tryz.results84,go_sem]) rfl ⟨u7,l,p', _,rfl,FQ.out,LS.out _ _ _ _ D.out⟩
def LngL (F : Option (List Nat × Nat)) (B : Bits) (x most itv z i : Nat) (e : Option Nat) (l : List Nat) (p : Nat) (bad : Bool) : Prop :=
 i <= z /\ l.length <= most /\ (∀ v ∈ l,v < 65536) /\ (∀ e', e = some e' -> e' < 65536) /\ (i = 0 ↔ e = none) /\ (bad = true -> F = none) /\ (bad = false -> F = (lng B x most itv (z - i) e l.length p).map fun t => (l ++ t.1,t.2))
def zagBad (x : Nat) (e : Option Nat) (v : Nat) : Bool := match e with
 | none => decide (zag v + (x : Int) < 0 \/ 65536 <= zag v + (x : Int))
 | some _ => false
theorem lng_succ (B : Bits) (x most itv c : Nat) (e : Option Nat) (used p : Nat) : lng B x most itv (c + 1) e used p = (tk B .gam 262144 p).bind fun q => (tk B .gam most q.2).bind fun q2 =>
      if rowFrom x e q.1 < 0 ∨ 65536 < rowFrom x e q.1 + ((q2.1 + itv : Nat) : Int) ∨ most < used + (q2.1 + itv) then none else
      (lng B x most itv c (some ((rowFrom x e q.1).toNat + (q2.1 + itv) - 1)) (used + (q2.1 + itv)) q2.2).map fun t => (row ((rowFrom x e q.1).toNat, q2.1 + itv) ++ t.1, t.2) := rfl
section
variable {F : Option (List Nat × Nat)} {B : Bits} {x most itv z i p v p2 v2 p3 : Nat} {e : Option Nat} {l : List Nat} {b2 b3 : Bool}
theorem LngL.no (h : LngL F B x most itv z i e l p false) (hi : i < z) (hit : 1 ≤ itv) (t1 : TakeD (tk B .gam 262144 p) 262144 false v p2 b2) (t2 : TakeD (tk B .gam most p2) most (b2 || zagBad x e v) v2 p3 b3)
  (hno : b3 = true \/ 65536 < rowFrom x e v + ((v2 + itv : Nat) : Int) \/ most < l.length + (v2 + itv)) : F = none := by
 obtain ⟨h1,h2,h3,h4,h5,h6,h7⟩ := h
 have eq := h7 rfl
 rw [show z - i = (z - i - 1) + 1 by omega,lng_succ] at eq
 rw [eq]
 cases hk : tk B .gam 262144 p with
 | none => rfl
 | some q =>
  obtain ⟨rfl,rfl,rfl⟩ := t1.1 q hk rfl
  rw [Bool.false_or] at t2
  show ((tk B .gam most q.2).bind _).map _ = none
  cases hk2 : tk B .gam most q.2 with
  | none => rfl
  | some q2 =>
   show (if _ then none else _).map _ = none
   cases hz : zagBad x e q.1 with
   | true =>
    have hc : rowFrom x e q.1 < 0 \/ 65536 < rowFrom x e q.1 + ((q2.1 + itv : Nat) : Int) \/ most < l.length + (q2.1 + itv) := by
     cases e with
     | some e' => cases hz
     | none =>
      have h9 : zag q.1 + (x : Int) < 0 \/ 65536 <= zag q.1 + (x : Int) := of_decide_eq_true hz
      show zag q.1 + (x : Int) < 0 \/ 65536 < zag q.1 + (x : Int) + ((q2.1 + itv : Nat) : Int) \/ _
      omega
    rw [if_pos hc]
    rfl
   | false =>
    rw [hz] at t2
    obtain ⟨rfl,rfl,rfl⟩ := t2.1 q2 hk2 rfl
    have hc : rowFrom x e q.1 < 0 \/ 65536 < rowFrom x e q.1 + ((q2.1 + itv : Nat) : Int) \/ most < l.length + (q2.1 + itv) := by
     rcases hno with h | h
     ·cases h
     ·exact .inr h
    rw [if_pos hc]
    rfl
theorem LngL.step (h : LngL F B x most itv z i e l p false) (hi : i < z) (t1 : TakeD (tk B .gam 262144 p) 262144 false v p2 b2) (t2 : TakeD (tk B .gam most p2) most (b2 || zagBad x e v) v2 p3 b3)
  (h0 : b3 = false) (h8 : rowFrom x e v + ((v2 + itv : Nat) : Int) <= 65536) (h9 : l.length + (v2 + itv) <= most) :
  0 <= rowFrom x e v /\ LngL F B x most itv z (i + 1) (some ((rowFrom x e v).toNat + (v2 + itv) - 1)) (l ++ row ((rowFrom x e v).toNat,v2 + itv)) p3 false := by
 subst h0
 obtain ⟨h1,h2,h3,h4,h5,h6,h7⟩ := h
 have eq := h7 rfl
 rw [show z - i = (z - (i + 1)) + 1 by omega,lng_succ] at eq
 have hb2 : (b2 || zagBad x e v) = false := by
  cases hb : (b2 || zagBad x e v) with
  | false => rfl
  | true => have := (t2.2.1 (.inl hb)).2; cases this
 rw [hb2] at t2
 have hb2a : b2 = false := by cases b2 <;> simp_all
 have hz : zagBad x e v = false := by cases b2 <;> simp_all
 subst hb2a
 cases hk : tk B .gam 262144 p with
 | none => have := (t1.2.1 (.inr hk)).2; cases this
 | some q =>
  obtain ⟨rfl,rfl,-⟩ := t1.1 q hk rfl
  cases hk2 : tk B .gam most q.2 with
  | none => have := (t2.2.1 (.inr hk2)).2; cases this
  | some q2 =>
   obtain ⟨rfl,rfl,-⟩ := t2.1 q2 hk2 rfl
   have hpos : 0 <= rowFrom x e q.1 := by
    cases e with
    | none =>
     have h9 : ¬ (zag q.1 + (x : Int) < 0 \/ 65536 <= zag q.1 + (x : Int)) := of_decide_eq_false hz
     show 0 <= zag q.1 + (x : Int)
     omega
    | some e' =>
     show 0 <= (q.1 : Int) + ((e' : Int) + 2)
     omega
   rw [hk,Option.bind_some,hk2,Option.bind_some,if_neg (by omega)] at eq
   have hrl : (row ((rowFrom x e q.1).toNat,q2.1 + itv)).length = q2.1 + itv := by unfold row; rw [List.length_range']
   refine ⟨hpos,by omega,by rw [List.length_append,hrl]; exact h9,fun v hv => ?_,fun e' he => ?_,⟨fun h => by omega,fun h => by cases h⟩,fun h => (by cases h),fun _ => ?_⟩
   ·rcases List.mem_append.1 hv with hv | hv
    ·exact h3 v hv
    ·unfold row at hv
     have := List.mem_range'_1.1 hv
     dsimp only at this
     omega
   ·cases he
    omega
   ·rw [eq,List.length_append,hrl,Option.map_map]
    exact congrArg (fun f => Option.map f _) (funext fun t => by simp [Function.comp])
theorem LngL.fin (h : LngL F B x most itv z i e l p b2) (he : i = z ∨ b2 = true) : CopP F most l p b2 := by
 obtain ⟨h1,h2,h3,h4,h5,h6,h7⟩ := h
 refine ⟨h2,h3,h6,fun hb => ?_⟩
 rcases he with rfl | he
 ·rw [h7 hb,Nat.sub_self]
  show some (l ++ [],p) = some (l,p)
  rw [List.append_nil]
 ·rw [hb] at he; cases he
end
end Go.Proofs.YtflnpcgnenhogaaGreatDoor.ls
