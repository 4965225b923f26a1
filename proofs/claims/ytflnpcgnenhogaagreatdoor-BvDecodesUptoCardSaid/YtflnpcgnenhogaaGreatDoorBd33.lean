/- Own lemmas, laid together. -/
import Derived.Test.YtflnpcgnenhogaaGreatDoorBd32
import Derived.Test.YtflnpcgnenhogaaGreatDoorBd31
namespace Go.Proofs.YtflnpcgnenhogaaGreatDoor.ls
open Go.RowKit Go.Proofs.YtflnpcgnenhogaaGreatDoor.own Go.Proofs.YtflnpcgnenhogaaGreatDoor.bit

theorem Tryz.infoIntv : (Tryz.prog.info? 169).map (fun i => (i.zero, i.size, i.bytes)) = some (some (.agg #[.int .u32 0, .int .i64 0]), 2, 16) := by kernel_rfl
def piV (L : List (Nat × Nat)) : List Value := L.flatMap fun q => [.int .u32 (q.1 : Int), .int .i64 (q.2 : Int)]
theorem piV_snoc (L : List (Nat × Nat)) (q : Nat × Nat) : piV (L ++ [q]) = piV L ++ [.int .u32 (q.1 : Int), .int .i64 (q.2 : Int)] := by unfold piV; rw [List.flatMap_append]; rfl
theorem pi_one (a b : Int) : ∀ u ∈ [Value.int .u32 a, Value.int .i64 b], u.oneCell' = true := by intro u hu; simp at hu; rcases hu with rfl | rfl <;> rfl
def RI2 (w : World) (L : List (Nat × Nat)) (v1 : Value) (R : List Nat) (v2 : Value) (W : World) : Prop :=
 Below w.heap.size w W /\ W.ownsRow w.heap.size 169 2 v1 L.length (piV L) /\ W.ownsRow w.heap.size 77 1 v2 R.length (u32V R) /\ ∀ g,v1.ownBlock = some g -> v2.ownBlock ≠ some g
theorem RI2.next {w W W2 : World} {L : List (Nat × Nat)} {R : List Nat} {v1 v2 : Value} (h : RI2 w L v1 R v2 W) (k : Below W.heap.size W W2) : RI2 w L v1 R v2 W2 :=
 ⟨h.1.trans (k.mono h.1.size),own_below h.2.1 k,own_below h.2.2.1 k,h.2.2.2⟩
theorem RI2.drewN {w W : World} {L : List (Nat × Nat)} {R : List Nat} {v1 v2 : Value} (h : RI2 w L v1 R v2 W) (n : Nat) : RI2 w L v1 R v2 (W.drewN n) := h.next ⟨rfl, rfl, rfl, Nat.le_refl _, fun _ _ => rfl⟩
theorem RI2.add1 {w W W2 : World} {L : List (Nat × Nat)} {R : List Nat} {v1 v2 v' : Value} (h : RI2 w L v1 R v2 W) (q : Nat × Nat) (own : W2.ownsRow w.heap.size 169 2 v' (L.length + 1) (piV L ++ [.int .u32 (q.1 : Int), .int .i64 (q.2 : Int)])) (hg : W.grownBy W2 v1.ownBlock)
  (hw : v'.ownBlock = v1.ownBlock \/ v'.ownBlock = some W.heap.size) : RI2 w (L ++ [q]) v' R v2 W2 := by
 obtain ⟨hb,h1,h2,hne⟩ := h
 refine ⟨hb.grown hg hb.size (fun k hk => (h1.lt k hk).1),by rw [piV_snoc,List.length_append]; exact own,h2.kept hg ?_,fun g hgv => ?_⟩
 ·rcases hv : v2.ownBlock with _ | b
  ·exact .inl rfl
  ·exact .inr (fun e2 => hne b e2.symm hv)
 ·rcases hw with e | e
  ·exact hne g (e ▸ hgv)
  ·intro e2
   rw [e] at hgv
   injection hgv with hgv
   have := (h2.lt g e2).2
   omega
theorem RI2.add2 {w W W2 : World} {L : List (Nat × Nat)} {R : List Nat} {v1 v2 v' : Value} (h : RI2 w L v1 R v2 W) (l : List Nat) (m : Nat) (hm : l.length = m) (own : W2.ownsRow w.heap.size 77 1 v' (R.length + m) (u32V R ++ u32V l)) (hg : W.grownBy W2 v2.ownBlock)
  (hw : v'.ownBlock = v2.ownBlock \/ v'.ownBlock = some W.heap.size) : RI2 w L v1 (R ++ l) v' W2 := by
 obtain ⟨hb,h1,h2,hne⟩ := h
 refine ⟨hb.grown hg hb.size (fun k hk => (h2.lt k hk).1),h1.kept hg ?_,by rw [u32V_append,List.length_append,hm]; exact own,fun g hgv => ?_⟩
 ·rcases hv : v1.ownBlock with _ | b
  ·exact .inl rfl
  ·exact .inr (fun e2 => hne b hv e2.symm)
 ·rcases hw with e | e
  ·rw [e]; exact hne g hgv
  ·intro e2
   rw [e] at e2
   injection e2 with e2
   have := (h1.lt g hgv).2
   omega


def IntvP (w : World) (q : List (Nat × Nat) × List Nat) (e : Ending) (w' : World) : Prop := ∃ v1 v2, e = .returned (.tuple #[v1, v2]) ∧ RI2 w q.1 v1 q.2 v2 w'
set_option maxRecDepth 100000 in
set_option maxHeartbeats 6400000 in
theorem intervals_any (w : World) (a : Option Addr) (l : List Nat) (cap least : Nat) (hcap : l.length ≤ cap) (hl : least ≤ 64) (h : LV w a l) (hr : Ris l) :
  Calls Tryz.prog 93 #[.slice a l.length cap,.int .i64 (least : Int)] w (IntvP w (rws least l)) := by
 obtain ⟨i0,hi,hz0,hz1,hz2⟩ := info_parts Tryz.infoIntv
 obtain ⟨j0,hj,hj0,hj1,hj2⟩ := info_parts Tryz.infoU32
 have hlen := hr.len
 have H0 : Hid (RI2 w [] (.slice none 0 0) [] (.slice none 0 0) w) := Lib.hid ⟨Below.refl _ _,World.ownsRow_nil _ _ _ _,World.ownsRow_nil _ _ _ _,fun g hg => by cases hg⟩
 have H := Lib.hid h
 have HR := Lib.hid hr
 obtain ⟨Q,hQ⟩ : ∃ Q,rws least l = Q := ⟨_,rfl⟩
 have HQ := Lib.hid hQ
 rw [hQ]
 obtain ⟨N,hN⟩ : ∃ N,l.length = N := ⟨_,rfl⟩
 have HN := Lib.hid hN
 rw [hN] at hcap hlen ⊢
 clear h hr hQ hN
 go_enter Tryz.func93,Tryz.ntmps93
 go_wp2_with fail
 go_loopw [6,7,8] (fun v1 v2 v8 wr => ∃ (i : Nat) (L : List (Nat × Nat)) (R : List Nat),v8 = .int .i64 (i : Int) /\ i <= N /\ Q = (L ++ (rws least (l.drop i)).1,R ++ (rws least (l.drop i)).2) /\ L.length + R.length <= i /\ RI2 w L v1 R v2 wr)
  (fun _ _ v8 _ => N - (intOf v8).toNat)
 case atStart => exact ⟨0,[],[],rfl,Nat.zero_le _,by rw [<- HQ.out]; rfl,Nat.le_refl _,H0.out⟩
 case round =>
  obtain ⟨i,L,R,rfl,hiN,hQ,hbd,hW⟩ := hrel
  have HQ2 := Lib.hid hQ
  have HW := Lib.hid hW
  obtain ⟨s1,d1,rfl⟩ := own_shape hW.2.1
  obtain ⟨s2,d2,rfl⟩ := own_shape hW.2.2.1
  clear hQ hW
  by_cases hlt : i < N
  ·have i0' : decide ((i : Int) < (N : Int)) = true := decide_eq_true (by omega)
   have hil : i < l.length := by rw [HN.out]; exact hlt
   have hdr := List.drop_eq_getElem_cons hil
   obtain ⟨a0,ha0⟩ : ∃ x,l[i] = x := ⟨_,rfl⟩
   obtain ⟨r,hrr⟩ : ∃ x,l.drop (i + 1) = x := ⟨_,rfl⟩
   rw [ha0,hrr] at hdr
   have HDR := Lib.hid hdr
   have hrl : r.length = N - (i + 1) := by rw [<- hrr,List.length_drop,HN.out]
   have hRis : Ris (a0 :: r) := by rw [<- hdr]; exact ⟨HR.out.1.sublist (List.drop_sublist _ _),fun v hv => HR.out.2 v (List.mem_of_mem_drop hv)⟩
   obtain ⟨g,o,rfl⟩ := H.out.addr (by omega)
   have HLV := Lib.hid (H.out.below HW.out.1)
   have hb0 := hRis.2 a0 (List.mem_cons_self ..)
   obtain ⟨K,hK⟩ : ∃ K,cons1 a0 r = K := ⟨_,rfl⟩
   have CS := Lib.hid (cons1_spec a0 r)
   have hKl : K <= r.length := by rw [<- hK]; exact cons1_le a0 r
   rw [hK] at CS
   have RC := Lib.hid (rws_cons least a0 r)
   rw [hK,<- HDR.out] at RC
   have RD : Hid (r.drop K = l.drop (i + (K + 1))) := Lib.hid (by rw [<- hrr,List.drop_drop,show i + 1 + K = i + (K + 1) by omega])
   rw [RD.out] at RC
   have RT : Hid (a0 :: r.take K = (l.drop i).take (K + 1)) := Lib.hid (by rw [HDR.out,List.take_succ_cons])
   rw [RT.out] at RC
   have c0 : wr.cell? ⟨g,o + i,none⟩ = some (.int .u32 (a0 : Int)) := by
    obtain ⟨g', o', e,h3,_⟩ := HLV.out.cellAt i hil
    injection e with e
    injection e with e1 e2
    subst e1 e2
    rw [h3,ha0]
   have CR : Hid (∀ k (h : k < r.length),wr.cell? ⟨g,o + (i + (k + 1)),none⟩ = some (.int .u32 (r[k] : Int)) /\ r[k] < 65536) := Lib.hid (fun k h => by
    have hk2 : i + (k + 1) < l.length := by rw [HN.out]; omega
    obtain ⟨g', o', e,h3,_⟩ := HLV.out.cellAt (i + (k + 1)) hk2
    injection e with e
    injection e with e1 e2
    subst e1 e2
    have e5 : r[k] = l[i + (k + 1)] := by
     simp only [<- hrr,List.getElem_drop]
     congr 1
     omega
    rw [h3,e5]
    exact ⟨rfl,HR.out.2 _ (List.getElem_mem _)⟩)
   clear ha0 hrr hdr hRis hK
   go_upto_block 2 with fail
   go_cut [9] from 14 to 37 (fun v9 wc => v9 = .int .i64 ((K + 1 : Nat) : Int) /\ ∃ q,wc = wr.drewN q)
   case first =>
    go_wp2_with fail
    go_loopw [9] (fun v9 wc => ∃ k q : Nat,v9 = .int .i64 ((k + 1 : Nat) : Int) /\ k <= K /\ wc = wr.drewN q) (fun v9 _ => N + 1 - (intOf v9).toNat)
    case atStart => exact ⟨0,0,rfl,Nat.zero_le _,rfl⟩
    case round =>
     rename_i wq
     obtain ⟨k,q,rfl,hk,rfl⟩ := hrel
     obtain ⟨kk,hkk⟩ : ∃ kk,k + 1 = kk := ⟨_,rfl⟩
     obtain ⟨ik,hik⟩ : ∃ ik,i + kk = ik := ⟨_,rfl⟩
     have hikI : (i : Int) + (kk : Int) = (ik : Int) := by omega
     rw [hkk]
     by_cases hlt2 : ik < N
     ·have hkr : k < r.length := by omega
      obtain ⟨v,hv⟩ : ∃ v,r[k] = v := ⟨_,rfl⟩
      obtain ⟨c1,hvb⟩ := CR.out k hkr
      rw [hkk,hik] at c1
      rw [hv] at c1 hvb
      have HV := Lib.hid hv
      have i1 : decide ((ik : Int) < (N : Int)) = true := decide_eq_true (by omega)
      have w1 : IntKind.u32.wrap (kk : Int) = (kk : Int) := by rw [IntKind.wrap_u32]; omega
      have w2 : IntKind.u32.wrap ((a0 : Int) + (kk : Int)) = ((a0 + kk : Nat) : Int) := by rw [IntKind.wrap_u32]; omega
      have w3 : IntKind.i64.wrap ((kk : Int) + 1) = ((kk + 1 : Nat) : Int) := by rw [IntWalk.i64_in _ (by omega)]; omega
      have i2 : (ik : Int) < (N : Int) := by omega
      have i3 : (0 : Int) <= (ik : Int) := by omega
      have i4 : (0 : Int) <= (i : Int) := by omega
      have i5 : (i : Int) < (N : Int) := by omega
      by_cases he : v = a0 + kk
      ·have hKK : k < K := by
        rcases Nat.lt_or_ge k K with h | h
        ·exact h
        ·obtain rfl : k = K := by omega
         exact absurd (by omega) (CS.out.2 hkr)
       have b1 : ((v : Int) == ((a0 + kk : Nat) : Int)) = true := by rw [he]; simp
       clear he hv hik
       go_upto_region 6 with fail
       go_quiet (fail)
       go_wp2_with fail
       go_roundw
       case rel => exact ⟨k + 1,_,by rw [hkk]; go_num,hKK,(by first | rfl | exact drewN_add _ _ _)⟩
       case measure => simp [intOf]; omega
      ·have hKK : k = K := by
        rcases Nat.lt_or_ge k K with h | h
        ·exfalso
         have h1 := CS.out.1
         have h2 : (r.take K)[k]'(by rw [List.length_take]; omega) = (List.range' (a0 + 1) K)[k]'(by rw [List.length_range']; exact h) := by simp only [h1]
         rw [List.getElem_take,List.getElem_range'] at h2
         omega
        ·omega
       have b1 : ((v : Int) == ((a0 + kk : Nat) : Int)) = false := beq_eq_false_iff_ne.2 (by omega)
       clear he hv hik
       go_upto_region 6 with fail
       go_quiet (fail)
       go_wp2_with fail
       go_meet
       case rel => exact ⟨by rw [<- hkk,hKK],_,(by first | rfl | exact drewN_add _ _ _)⟩
     ·have i1 : decide ((ik : Int) < (N : Int)) = false := decide_eq_false (by omega)
      have hKK : k = K := by omega
      clear hik
      go_upto_region 6 with fail
      go_quiet (fail)
      go_wp2_with fail
      go_meet
      case rel => exact ⟨by rw [<- hkk,hKK],_,(by first | rfl | exact drewN_add _ _ _)⟩
   case rest =>
    obtain ⟨rfl,q,rfl⟩ := hcut
    have hw0 := HW.out.drewN q
    have HLV0 := Lib.hid (HLV.out.below (w' := wr.drewN q) ⟨rfl,rfl,rfl,Nat.le_refl _,fun _ _ => rfl⟩)
    have c0' : (wr.drewN q).cell? ⟨g,o + i,none⟩ = some (.int .u32 (a0 : Int)) := c0
    generalize wr.drewN q = W0 at hw0 HLV0 c0' ⊢
    have HW0 := Lib.hid hw0
    clear c0 HW HLV hw0 CR
    obtain ⟨n,hn⟩ : ∃ n,K + 1 = n := ⟨_,rfl⟩
    have hn1 : 1 <= n := by omega
    have hnN : i + n <= N := by omega
    rw [hn] at RC RD RT ⊢
    have HNK := Lib.hid hn
    obtain ⟨j,hj9⟩ : ∃ j,i + n = j := ⟨_,rfl⟩
    have hjI : (i : Int) + (n : Int) = (j : Int) := by omega
    have HJ := Lib.hid hj9
    rw [hj9] at RC
    clear hn hj9
    by_cases hc : 0 < least /\ least <= n
    ·have RC2 := RC.out
     rw [if_pos hc] at RC2
     have RC3 := Lib.hid RC2
     have j1 : decide ((0 : Int) < (least : Int)) = true := decide_eq_true (by omega)
     have j2 : decide ((least : Int) <= (n : Int)) = true := decide_eq_true (by omega)
     have j2n : decide (least <= n) = true := decide_eq_true hc.2
     clear RC RC2
     have OWN1 := Lib.hid (HW0.out.2.1.alloc (.cells #[.int .u32 (a0 : Int),.int .i64 (n : Int)] 169))
     have C1 : Hid (∀ j u,([Value.int .u32 (a0 : Int),.int .i64 (n : Int)] : List Value)[j]? = some u -> (W0.alloc (.cells #[.int .u32 (a0 : Int),.int .i64 (n : Int)] 169)).cell? ((⟨W0.heap.size,0,none⟩ : Addr).add j) = some u) := Lib.hid (fun j u hu => by
      rw [Addr.add_lit,cell_of_row _ _ _ _ _ _ (heap_alloc_new _ _),Nat.zero_add]; simpa using hu)
     have C3 : Hid (L.length + 1 <= maxLen) := Lib.hid (by simp only [maxLen]; omega)
     have C4 : Hid ((L.length + 1) * 16 <= 140737488355328) := Lib.hid (by omega)
     have C5 : Hid (w.heap.size <= (W0.alloc (.cells #[.int .u32 (a0 : Int),.int .i64 (n : Int)] 169)).heap.size) := Lib.hid (by have := HW0.out.1.size; simp; omega)
     go_wp2_with (at_builtin; refine wpList_append_at _ rfl _ _ 164 rfl w.heap.size 169 i0 _ 2 16 Tryz.underlying164 hi hz0 hz1 hz2 rfl (by decide) _ L.length _ rfl OWN1.out ⟨W0.heap.size,0,none⟩ 1 1 [.int .u32 (a0 : Int),.int .i64 (n : Int)] rfl rfl C1.out (pi_one _ _) C3.out C4.out C5.out (by decide) ?_)
     intro v' w' own' hg hw
     have HA : Hid (RI2 w (L ++ [(a0,n)]) v' R (.slice s2 R.length d2) w') := Lib.hid ((HW0.out.next ((Below.refl _ _).alloc (Nat.le_refl _) _)).add1 (a0,n) own' hg (by simpa using hw))
     obtain ⟨av,dv,rfl⟩ := own_shape own'
     clear own' hg hw C1 C3 C4 C5 OWN1
     go_wp2_with fail
     go_roundw
     case rel => exact ⟨j,L ++ [(a0,n)],R,rfl,by omega,by rw [HQ2.out,RC3.out,List.append_assoc]; rfl,by rw [List.length_append,List.length_singleton]; omega,HA.out⟩
     case measure => simp [intOf]; omega
    ·have RC2 := RC.out
     rw [if_neg hc] at RC2
     have RC3 := Lib.hid RC2
     have TL : Hid (((l.drop i).take n).length = j - i) := Lib.hid (by rw [List.length_take,List.length_drop,HN.out]; omega)
     have LVT : Hid (LV W0 (some ⟨g,o + i,none⟩) ((l.drop i).take n)) := Lib.hid ((HLV0.out.drop i).take n)
     have C3 : Hid (R.length + (j - i) <= maxLen) := Lib.hid (by simp only [maxLen]; omega)
     have C4 : Hid ((R.length + (j - i)) * 4 <= 140737488355328) := Lib.hid (by omega)
     have hci : ¬ cap = i := by omega
     have hci2 : (cap = i) = False := eq_false hci
     clear RC RC2
     by_cases hl0 : 0 < least
     ·have j1 : decide ((0 : Int) < (least : Int)) = true := decide_eq_true (by omega)
      have j2 : decide ((least : Int) <= (n : Int)) = false := decide_eq_false (by omega)
      have j2n : decide (least <= n) = false := decide_eq_false (by omega)
      clear hc hci
      go_wp2_with (at_builtin; refine wpList_append_lv _ rfl _ _ 34 rfl w.heap.size 77 j0 _ 4 Tryz.underlying34 hj hj0 hj1 hj2 rfl _ R.length _ rfl HW0.out.2.2.1 (some ⟨g,o + i,none⟩) (j - i) (cap - i) ((l.drop i).take n) rfl TL.out LVT.out C3.out C4.out HW0.out.1.size ?_)
      intro v' w' own' hg hw
      have HA : Hid (RI2 w L (.slice s1 L.length d1) (R ++ (l.drop i).take n) v' w') := Lib.hid (HW0.out.add2 ((l.drop i).take n) (j - i) TL.out own' hg hw)
      obtain ⟨av,dv,rfl⟩ := own_shape own'
      clear own' hg hw C3 C4
      go_wp2_with fail
      go_roundw
      case rel => exact ⟨j,L,R ++ (l.drop i).take n,rfl,by omega,by rw [HQ2.out,RC3.out,List.append_assoc],by rw [List.length_append,TL.out]; omega,HA.out⟩
      case measure => simp [intOf]; omega
     ·have j1 : decide ((0 : Int) < (least : Int)) = false := decide_eq_false (by omega)
      clear hc hci
      go_wp2_with (at_builtin; refine wpList_append_lv _ rfl _ _ 34 rfl w.heap.size 77 j0 _ 4 Tryz.underlying34 hj hj0 hj1 hj2 rfl _ R.length _ rfl HW0.out.2.2.1 (some ⟨g,o + i,none⟩) (j - i) (cap - i) ((l.drop i).take n) rfl TL.out LVT.out C3.out C4.out HW0.out.1.size ?_)
      intro v' w' own' hg hw
      have HA : Hid (RI2 w L (.slice s1 L.length d1) (R ++ (l.drop i).take n) v' w') := Lib.hid (HW0.out.add2 ((l.drop i).take n) (j - i) TL.out own' hg hw)
      obtain ⟨av,dv,rfl⟩ := own_shape own'
      clear own' hg hw C3 C4
      go_wp2_with fail
      go_roundw
      case rel => exact ⟨j,L,R ++ (l.drop i).take n,rfl,by omega,by rw [HQ2.out,RC3.out,List.append_assoc],by rw [List.length_append,TL.out]; omega,HA.out⟩
      case measure => simp [intOf]; omega
  ·have hin : i = N := by omega
   subst hin
   have i1 : decide ((i : Int) < (i : Int)) = false := decide_eq_false (by omega)
   have FIN : Hid (Q = (L,R)) := Lib.hid (by rw [HQ2.out,List.drop_eq_nil_of_le (by rw [HN.out]; exact Nat.le_refl _),rws_nil,List.append_nil,List.append_nil])
   go_wp2_with fail
   go_ret2
   rw [FIN.out]
   exact ⟨_,_,rfl,HW.out⟩
end Go.Proofs.YtflnpcgnenhogaaGreatDoor.ls
