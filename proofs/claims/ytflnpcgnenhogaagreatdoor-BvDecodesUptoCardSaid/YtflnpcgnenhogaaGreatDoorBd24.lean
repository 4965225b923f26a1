/- Own lemmas, laid together. -/
import Derived.Test.YtflnpcgnenhogaaGreatDoorBd21
import Derived.Test.YtflnpcgnenhogaaGreatDoorBd14
import Derived.Deep.CutBlock
namespace Go.Proofs.YtflnpcgnenhogaaGreatDoor.ls
open Go.RowKit Go.Proofs.YtflnpcgnenhogaaGreatDoor.own Go.Proofs.YtflnpcgnenhogaaGreatDoor.bit

theorem Tryz.infoU32 : (Tryz.prog.info? 77).map (fun i => (i.zero, i.size, i.bytes)) = some (some (.int .u32 0), 1, 4) := by kernel_rfl
theorem Tryz.infoRow : (Tryz.prog.info? 204).map (fun i => (i.zero, i.size, i.bytes)) = some (some (.agg #[.int .i64 0, .int .i64 0]), 2, 16) := by kernel_rfl
def prV (L : List (Nat × Nat)) : List Value := L.flatMap fun q => [.int .i64 (q.1 : Int), .int .i64 (q.2 : Int)]
def u32V (l : List Nat) : List Value := l.map fun (n : Nat) => Value.int .u32 (n : Int)
theorem prV_snoc (L : List (Nat × Nat)) (q : Nat × Nat) : prV (L ++ [q]) = prV L ++ [.int .i64 (q.1 : Int), .int .i64 (q.2 : Int)] := by unfold prV; rw [List.flatMap_append]; rfl
theorem u32V_append (a b : List Nat) : u32V (a ++ b) = u32V a ++ u32V b := List.map_append ..
theorem u32_one (l : List Nat) : ∀ u ∈ u32V l, u.oneCell' = true := by intro u hu; obtain ⟨n, -, rfl⟩ := List.mem_map.1 hu; rfl
theorem pr_one (a b : Int) : ∀ u ∈ [Value.int .i64 a, Value.int .i64 b], u.oneCell' = true := by intro u hu; simp at hu; rcases hu with rfl | rfl <;> rfl
def RW2 (w : World) (L : List (Nat × Nat)) (v1 : Value) (R : List Nat) (v2 : Value) (W : World) : Prop :=
 Below w.heap.size w W /\ W.ownsRow w.heap.size 204 2 v1 L.length (prV L) /\ W.ownsRow w.heap.size 77 1 v2 R.length (u32V R) /\ ∀ g,v1.ownBlock = some g -> v2.ownBlock ≠ some g
theorem RW2.next {w W W2 : World} {L : List (Nat × Nat)} {R : List Nat} {v1 v2 : Value} (h : RW2 w L v1 R v2 W) (k : Below W.heap.size W W2) : RW2 w L v1 R v2 W2 :=
 ⟨h.1.trans (k.mono h.1.size),own_below h.2.1 k,own_below h.2.2.1 k,h.2.2.2⟩
theorem RW2.drewN {w W : World} {L : List (Nat × Nat)} {R : List Nat} {v1 v2 : Value} (h : RW2 w L v1 R v2 W) (n : Nat) : RW2 w L v1 R v2 (W.drewN n) := h.next ⟨rfl, rfl, rfl, Nat.le_refl _, fun _ _ => rfl⟩
theorem RW2.add1 {w W W2 : World} {L : List (Nat × Nat)} {R : List Nat} {v1 v2 v' : Value} (h : RW2 w L v1 R v2 W) (q : Nat × Nat) (own : W2.ownsRow w.heap.size 204 2 v' (L.length + 1) (prV L ++ [.int .i64 (q.1 : Int), .int .i64 (q.2 : Int)])) (hg : W.grownBy W2 v1.ownBlock)
  (hw : v'.ownBlock = v1.ownBlock \/ v'.ownBlock = some W.heap.size) : RW2 w (L ++ [q]) v' R v2 W2 := by
 obtain ⟨hb,h1,h2,hne⟩ := h
 refine ⟨hb.grown hg hb.size (fun k hk => (h1.lt k hk).1),by rw [prV_snoc,List.length_append]; exact own,h2.kept hg ?_,fun g hgv => ?_⟩
 ·rcases hv : v2.ownBlock with _ | b
  ·exact .inl rfl
  ·exact .inr (fun e2 => hne b e2.symm hv)
 ·rcases hw with e | e
  ·exact hne g (e ▸ hgv)
  ·intro e2
   rw [e] at hgv
   injection hgv with hgv
   have := (h2.lt g e2).2
   omega
theorem RW2.add2 {w W W2 : World} {L : List (Nat × Nat)} {R : List Nat} {v1 v2 v' : Value} (h : RW2 w L v1 R v2 W) (l : List Nat) (m : Nat) (hm : l.length = m) (own : W2.ownsRow w.heap.size 77 1 v' (R.length + m) (u32V R ++ u32V l)) (hg : W.grownBy W2 v2.ownBlock)
  (hw : v'.ownBlock = v2.ownBlock \/ v'.ownBlock = some W.heap.size) : RW2 w L v1 (R ++ l) v' W2 := by
 obtain ⟨hb,h1,h2,hne⟩ := h
 refine ⟨hb.grown hg hb.size (fun k hk => (h2.lt k hk).1),h1.kept hg ?_,by rw [u32V_append,List.length_append,hm]; exact own,fun g hgv => ?_⟩
 ·rcases hv : v1.ownBlock with _ | b
  ·exact .inl rfl
  ·exact .inr (fun e2 => hne b hv e2.symm)
 ·rcases hw with e | e
  ·rw [e]; exact hne g hgv
  ·intro e2
   rw [e] at e2
   injection e2 with e2
   have := (h1.lt g hgv).2
   omega

theorem LV.drop {w : World} {g o : Nat} {l : List Nat} (h : LV w (some ⟨g, o, none⟩) l) (k : Nat) : LV w (some ⟨g, o + k, none⟩) (l.drop k) := by
 refine ⟨by rw [List.length_drop]; have := h.1; omega,fun i hi => ?_⟩
 rw [List.length_drop] at hi
 obtain ⟨g', o', e,h2,h3,h4⟩ := h.2 (k + i) (by omega)
 injection e with e
 injection e with e1 e2
 subst e1 e2
 refine ⟨g,o + k,rfl,h2,?_,?_⟩
 ·rw [Nat.add_assoc,h3,List.getElem_drop]
 ·rw [List.getElem_drop]; exact h4
theorem LV.cells {w : World} {g o : Nat} {l : List Nat} (h : LV w (some ⟨g, o, none⟩) l) (k : Nat) : ∀ j u, (u32V (l.take k))[j]? = some u → w.cell? ((⟨g, o, none⟩ : Addr).add j) = some u := by
 intro j u hu
 have hj : j < (l.take k).length := by
  have := (List.getElem?_eq_some_iff.1 hu).1
  simpa [u32V] using this
 have hj2 : j < l.length := by rw [List.length_take] at hj; omega
 obtain ⟨g', o', e,h2,h3,h4⟩ := h.2 j hj2
 injection e with e
 injection e with e1 e2
 subst e1 e2
 rw [Addr.add_lit,h3]
 unfold u32V at hu
 rw [List.getElem?_map,List.getElem?_eq_getElem hj,List.getElem_take] at hu
 exact hu
theorem LV.addr {w : World} {a : Option Addr} {l : List Nat} (h : LV w a l) (h0 : 0 < l.length) : ∃ g o, a = some ⟨g, o, none⟩ := by
 obtain ⟨g,o,e,_⟩ := h.2 0 h0
 exact ⟨g,o,e⟩

theorem drewN_add (w : World) (a b : Nat) : (w.drewN a).drewN b = w.drewN (a + b) := by
 unfold World.drewN
 simp [Nat.add_assoc]
def sliceLen : Value → Nat
 | .slice _ n _ => n
 | _ => 0
def RowsP (w : World) (q : List (Nat × Nat) × List Nat) (e : Ending) (w' : World) : Prop := ∃ v1 v2, e = .returned (.tuple #[v1, v2]) ∧ RW2 w q.1 v1 q.2 v2 w'
set_option maxRecDepth 100000 in
set_option maxHeartbeats 6400000 in
theorem rows_any (w : World) (a : Option Addr) (l : List Nat) (cap least : Nat) (hcap : l.length ≤ cap) (hl : least ≤ 64) (h : LV w a l) (hr : Ris l) :
  Calls Tryz.prog 122 #[.slice a l.length cap,.int .i64 (least : Int)] w (RowsP w (rws least l)) := by
 obtain ⟨i0,hi,hz0,hz1,hz2⟩ := info_parts Tryz.infoRow
 obtain ⟨j0,hj,hj0,hj1,hj2⟩ := info_parts Tryz.infoU32
 have hlen := hr.len
 have H0 : Hid (RW2 w [] (.slice none 0 0) [] (.slice none 0 0) w) := Lib.hid ⟨Below.refl _ _,World.ownsRow_nil _ _ _ _,World.ownsRow_nil _ _ _ _,fun g hg => by cases hg⟩
 have H := Lib.hid h
 have HR := Lib.hid hr
 obtain ⟨Q,hQ⟩ : ∃ Q,rws least l = Q := ⟨_,rfl⟩
 have HQ := Lib.hid hQ
 rw [hQ]
 clear h hr hQ
 go_enter Tryz.func122,Tryz.ntmps122
 go_wp2_with fail
 go_loopw [0,4,5] (fun vl v1 v2 wr => ∃ (a' : Option Addr) (l' : List Nat) (cap' : Nat) (L : List (Nat × Nat)) (R : List Nat),vl = .slice a' l'.length cap' /\ l'.length <= cap' /\ cap' <= cap /\ LV w a' l' /\ Ris l' /\ Q = (L ++ (rws least l').1,R ++ (rws least l').2) /\ L.length + R.length + l'.length <= l.length /\ RW2 w L v1 R v2 wr)
  (fun vl _ _ _ => sliceLen vl)
 case atStart => exact ⟨a,l,cap,[],[],rfl,hcap,Nat.le_refl _,H.out,HR.out,by rw [HQ.out]; rfl,by simp,H0.out⟩
 case round =>
  obtain ⟨a', l', cap', L,R,rfl,hc1,hc2,hLV,hRis,hQ,hbd,hW⟩ := hrel
  have HQ2 := Lib.hid hQ
  have HW := Lib.hid hW
  obtain ⟨s1,d1,rfl⟩ := own_shape hW.2.1
  obtain ⟨s2,d2,rfl⟩ := own_shape hW.2.2.1
  clear hQ hW
  cases l' with
  | nil =>
   have FIN : Hid (Q = (L,R)) := Lib.hid (by rw [HQ2.out,rws_nil,List.append_nil,List.append_nil])
   simp only [List.length_nil]
   go_wp2_with fail
   go_ret2
   rw [FIN.out]
   exact ⟨_,_,rfl,HW.out⟩
  | cons a0 r =>
   obtain ⟨g,o,rfl⟩ := hLV.addr (by simp)
   have HLV := Lib.hid (hLV.below HW.out.1)
   have HLVw := Lib.hid hLV
   have ha0 := hRis.2 a0 (List.mem_cons_self ..)
   have hrl := hRis.len
   obtain ⟨K,hK⟩ : ∃ K,cons1 a0 r = K := ⟨_,rfl⟩
   have CS := Lib.hid (cons1_spec a0 r)
   have hKl : K <= r.length := by rw [<- hK]; exact cons1_le a0 r
   rw [hK] at CS
   have HRis := Lib.hid hRis
   have RC := Lib.hid (rws_cons least a0 r)
   rw [hK] at RC
   obtain ⟨N,hN⟩ : ∃ N,(a0 :: r).length = N := ⟨_,rfl⟩
   have hN2 : N = r.length + 1 := by rw [<- hN]; simp
   rw [hN] at hc1 hrl hbd ⊢
   have HN := Lib.hid hN
   have HK := Lib.hid hK
   have HN2 := Lib.hid hN2
   have c0 : wr.cell? ⟨g,o,none⟩ = some (.int .u32 (a0 : Int)) := by
    obtain ⟨g', o', e,_,h3,_⟩ := HLV.out.2 0 (by simp)
    injection e with e
    injection e with e1 e2
    subst e1 e2
    simpa using h3
   have hNp : (0 : Int) < (N : Int) := by omega
   clear hLV hRis hK hN hN2
   go_upto_block 2 with fail
   go_cut [6] from 10 to 29 (fun v6 wc => v6 = .int .i64 ((K + 1 : Nat) : Int) /\ ∃ q,wc = wr.drewN q)
   case first =>
    go_wp2_with fail
    go_loopw [6] (fun v6 wc => ∃ k q : Nat,v6 = .int .i64 ((k + 1 : Nat) : Int) /\ k <= K /\ wc = wr.drewN q) (fun v6 _ => N - (intOf v6).toNat)
    case atStart => exact ⟨0,0,rfl,Nat.zero_le _,rfl⟩
    case round =>
     rename_i wq
     obtain ⟨k,q,rfl,hk,rfl⟩ := hrel
     obtain ⟨kk,hkk⟩ : ∃ kk,k + 1 = kk := ⟨_,rfl⟩
     rw [hkk]
     by_cases hlt : kk < N
     ·have hkr : k < r.length := by have := HN2.out; omega
      obtain ⟨v,hv⟩ : ∃ v,r[k] = v := ⟨_,rfl⟩
      have c1 : wr.cell? ⟨g,o + kk,none⟩ = some (.int .u32 (v : Int)) := by
       obtain ⟨g', o', e,_,h3,_⟩ := HLV.out.2 (k + 1) (by rw [HN.out]; omega)
       injection e with e
       injection e with e1 e2
       subst e1 e2
       rw [<- hkk,h3,List.getElem_cons_succ,hv]
      have HV := Lib.hid hv
      have i1 : decide ((kk : Int) < (N : Int)) = true := decide_eq_true (by omega)
      have w1 : IntKind.u32.wrap (kk : Int) = (kk : Int) := by rw [IntKind.wrap_u32]; omega
      have w2 : IntKind.u32.wrap ((a0 : Int) + (kk : Int)) = ((a0 + kk : Nat) : Int) := by rw [IntKind.wrap_u32]; omega
      have w3 : IntKind.i64.wrap ((kk : Int) + 1) = ((kk + 1 : Nat) : Int) := by rw [IntWalk.i64_in _ (by omega)]; omega
      have i2 : (kk : Int) < (N : Int) := by omega
      have i3 : (0 : Int) <= (kk : Int) := by omega
      have hvb : v < 4294967296 := by
       have := HRis.out.2 r[k] (List.mem_cons_of_mem _ (List.getElem_mem hkr))
       omega
      by_cases he : v = a0 + kk
      ·have hKK : k < K := by
        rcases Nat.lt_or_ge k K with h | h
        ·exact h
        ·obtain rfl : k = K := by omega
         exact absurd (by omega) (CS.out.2 hkr)
       have b1 : ((v : Int) == ((a0 + kk : Nat) : Int)) = true := by rw [he]; simp
       clear he hv
       go_upto_region 3 with fail
       go_quiet (fail)
       go_wp2_with fail
       go_roundw
       case rel => exact ⟨k + 1,_,by rw [hkk]; go_num,hKK,(by first | rfl | exact drewN_add _ _ _)⟩
       case measure => simp [intOf]; omega
      ·have hKK : k = K := by
        rcases Nat.lt_or_ge k K with h | h
        ·exfalso
         have h1 := CS.out.1
         have h2 : (r.take K)[k]'(by rw [List.length_take]; omega) = (List.range' (a0 + 1) K)[k]'(by rw [List.length_range']; exact h) := by simp only [h1]
         rw [List.getElem_take,List.getElem_range'] at h2
         omega
        ·omega
       have b1 : ((v : Int) == ((a0 + kk : Nat) : Int)) = false := beq_eq_false_iff_ne.2 (by omega)
       clear he hv
       go_upto_region 3 with fail
       go_quiet (fail)
       go_wp2_with fail
       go_meet
       case rel => exact ⟨by rw [<- hkk,hKK],_,(by first | rfl | exact drewN_add _ _ _)⟩
     ·have i1 : decide ((kk : Int) < (N : Int)) = false := decide_eq_false (by omega)
      have hKK : k = K := by have := HN2.out; omega
      go_upto_region 3 with fail
      go_quiet (fail)
      go_wp2_with fail
      go_meet
      case rel => exact ⟨by rw [<- hkk,hKK],_,(by first | rfl | exact drewN_add _ _ _)⟩
   case rest =>
    obtain ⟨rfl,q,rfl⟩ := hcut
    have hw0 := HW.out.drewN q
    have HLV0 := Lib.hid (HLV.out.below (w' := wr.drewN q) ⟨rfl,rfl,rfl,Nat.le_refl _,fun _ _ => rfl⟩)
    have c0' : (wr.drewN q).cell? ⟨g,o,none⟩ = some (.int .u32 (a0 : Int)) := c0
    generalize wr.drewN q = W0 at hw0 HLV0 c0' ⊢
    have HW0 := Lib.hid hw0
    clear c0 HW HLV hw0
    obtain ⟨n,hn⟩ : ∃ n,K + 1 = n := ⟨_,rfl⟩
    have hnN : n <= N := by have := HN2.out; omega
    rw [hn] at RC ⊢
    have HNK := Lib.hid hn
    have NX : Hid (LV w (some (if cap' = n then ⟨g,o,none⟩ else ⟨g,o + n,none⟩)) (r.drop K) /\ (r.drop K).length = N - n /\ Ris (r.drop K)) := Lib.hid (by
     have e : (a0 :: r).drop n = r.drop K := by rw [<- hn,List.drop_succ_cons]
     have hl : (r.drop K).length = N - n := by rw [List.length_drop]; have := HN2.out; omega
     refine ⟨?_,hl,?_⟩
     ·split
      ·refine ⟨by omega,fun i hi => by omega⟩
      ·exact e ▸ HLVw.out.drop n
     ·have hs : List.Sublist (r.drop K) (a0 :: r) := (List.drop_sublist K r).trans (List.sublist_cons_self a0 r)
      exact ⟨HRis.out.1.sublist hs,fun v hv => HRis.out.2 v (hs.subset hv)⟩)
    have hn1 : 1 <= n := by omega
    have s1' : (n : Int) <= (N : Int) := by omega
    have s2' : (0 : Int) <= (n : Int) := by omega
    have s3' : ¬ (N : Int) < (n : Int) := by omega
    have s4' : ¬ (cap' : Int) < (n : Int) := by omega
    have s5' : ¬ (cap' : Int) < (N : Int) := by omega
    clear hn
    by_cases hc : 0 < least /\ least <= n
    ·have RC2 := RC.out
     rw [if_pos hc] at RC2
     have RC3 := Lib.hid RC2
     have j1 : decide ((0 : Int) < (least : Int)) = true := decide_eq_true (by omega)
     have j2 : decide ((least : Int) <= (n : Int)) = true := decide_eq_true (by omega)
     clear RC RC2
     have OWN1 := Lib.hid (HW0.out.2.1.alloc (.cells #[.int .i64 (a0 : Int),.int .i64 (n : Int)] 204))
     have C1 : Hid (∀ j u,([Value.int .i64 (a0 : Int),.int .i64 (n : Int)] : List Value)[j]? = some u -> (W0.alloc (.cells #[.int .i64 (a0 : Int),.int .i64 (n : Int)] 204)).cell? ((⟨W0.heap.size,0,none⟩ : Addr).add j) = some u) := Lib.hid (fun j u hu => by
      rw [Addr.add_lit,cell_of_row _ _ _ _ _ _ (heap_alloc_new _ _),Nat.zero_add]; simpa using hu)
     have C3 : Hid (L.length + 1 <= maxLen) := Lib.hid (by simp only [maxLen]; omega)
     have C4 : Hid ((L.length + 1) * 16 <= 140737488355328) := Lib.hid (by omega)
     have C5 : Hid (w.heap.size <= (W0.alloc (.cells #[.int .i64 (a0 : Int),.int .i64 (n : Int)] 204)).heap.size) := Lib.hid (by have := HW0.out.1.size; simp; omega)
     go_wp2_with (at_builtin; refine wpList_append_at _ rfl _ _ 200 rfl w.heap.size 204 i0 _ 2 16 Tryz.underlying200 hi hz0 hz1 hz2 rfl (by decide) _ L.length _ rfl OWN1.out ⟨W0.heap.size,0,none⟩ 1 1 [.int .i64 (a0 : Int),.int .i64 (n : Int)] rfl rfl C1.out (pr_one _ _) C3.out C4.out C5.out (by decide) ?_)
     intro v' w' own' hg hw
     have HA : Hid (RW2 w (L ++ [(a0,n)]) v' R (.slice s2 R.length d2) w') := Lib.hid ((HW0.out.next ((Below.refl _ _).alloc (Nat.le_refl _) _)).add1 (a0,n) own' hg (by simpa using hw))
     obtain ⟨av,dv,rfl⟩ := own_shape own'
     clear own' hg hw C1 C3 C4 C5 OWN1
     go_wp2_with fail
     go_roundw
     case rel => exact ⟨_,r.drop K,cap' - n,L ++ [(a0,n)],R,by rw [NX.out.2.1]; split <;> rfl,by rw [NX.out.2.1]; omega,by omega,NX.out.1,NX.out.2.2,by rw [HQ2.out,RC3.out,List.append_assoc]; rfl,by rw [NX.out.2.1,List.length_append,List.length_singleton]; omega,HA.out⟩
     case measure => simp [sliceLen]; omega
    ·have RC2 := RC.out
     rw [if_neg hc] at RC2
     have RC3 := Lib.hid RC2
     have TK : Hid ((u32V ((a0 :: r).take n)).length = n * 1) := Lib.hid (by rw [u32V,List.length_map,List.length_take,HN.out]; omega)
     have TL : Hid (((a0 :: r).take n).length = n) := Lib.hid (by rw [List.length_take,HN.out]; omega)
     have TE : Hid ((a0 :: r).take n = a0 :: r.take K) := Lib.hid (by rw [<- HNK.out,List.take_succ_cons])
     have C1 := Lib.hid (HLV0.out.cells n)
     have C3 : Hid (R.length + n <= maxLen) := Lib.hid (by simp only [maxLen]; omega)
     have C4 : Hid ((R.length + n) * 4 <= 140737488355328) := Lib.hid (by omega)
     have hjj : (0 < least /\ least <= n) = False := eq_false hc
     clear RC RC2
     by_cases hl0 : 0 < least
     ·have j1 : decide ((0 : Int) < (least : Int)) = true := decide_eq_true (by omega)
      have j2 : decide ((least : Int) <= (n : Int)) = false := decide_eq_false (by omega)
      have j3 : decide (least <= n) = false := decide_eq_false (by omega)
      have j4 : ¬ ((least : Int) <= (n : Int)) := by omega
      clear hc hjj
      go_wp2_with (at_builtin; refine wpList_append_at _ rfl _ _ 34 rfl w.heap.size 77 j0 _ 1 4 Tryz.underlying34 hj hj0 hj1 hj2 rfl (by decide) _ R.length _ rfl HW0.out.2.2.1 ⟨g,o,none⟩ n cap' (u32V ((a0 :: r).take n)) rfl TK.out C1.out (u32_one _) C3.out C4.out HW0.out.1.size (by omega) ?_)
      intro v' w' own' hg hw
      have HA : Hid (RW2 w L (.slice s1 L.length d1) (R ++ (a0 :: r.take K)) v' w') := Lib.hid (by rw [<- TE.out]; exact HW0.out.add2 ((a0 :: r).take n) n TL.out own' hg hw)
      obtain ⟨av,dv,rfl⟩ := own_shape own'
      clear own' hg hw C1 C3 C4 TK
      go_wp2_with fail
      go_roundw
      case rel => exact ⟨_,r.drop K,cap' - n,L,R ++ (a0 :: r.take K),by rw [NX.out.2.1]; split <;> rfl,by rw [NX.out.2.1]; omega,by omega,NX.out.1,NX.out.2.2,by rw [HQ2.out,RC3.out,List.append_assoc],by rw [NX.out.2.1,List.length_append,<- TE.out,TL.out]; omega,HA.out⟩
      case measure => simp [sliceLen]; omega
     ·have j1 : decide ((0 : Int) < (least : Int)) = false := decide_eq_false (by omega)
      clear hc hjj
      go_wp2_with (at_builtin; refine wpList_append_at _ rfl _ _ 34 rfl w.heap.size 77 j0 _ 1 4 Tryz.underlying34 hj hj0 hj1 hj2 rfl (by decide) _ R.length _ rfl HW0.out.2.2.1 ⟨g,o,none⟩ n cap' (u32V ((a0 :: r).take n)) rfl TK.out C1.out (u32_one _) C3.out C4.out HW0.out.1.size (by omega) ?_)
      intro v' w' own' hg hw
      have HA : Hid (RW2 w L (.slice s1 L.length d1) (R ++ (a0 :: r.take K)) v' w') := Lib.hid (by rw [<- TE.out]; exact HW0.out.add2 ((a0 :: r).take n) n TL.out own' hg hw)
      obtain ⟨av,dv,rfl⟩ := own_shape own'
      clear own' hg hw C1 C3 C4 TK
      go_wp2_with fail
      go_roundw
      case rel => exact ⟨_,r.drop K,cap' - n,L,R ++ (a0 :: r.take K),by rw [NX.out.2.1]; split <;> rfl,by rw [NX.out.2.1]; omega,by omega,NX.out.1,NX.out.2.2,by rw [HQ2.out,RC3.out,List.append_assoc],by rw [NX.out.2.1,List.length_append,<- TE.out,TL.out]; omega,HA.out⟩
      case measure => simp [sliceLen]; omega
end Go.Proofs.YtflnpcgnenhogaaGreatDoor.ls
