/- Own lemmas, laid together. -/
import Derived.Test.YtflnpcgnenhogaaGreatDoorBd37
import Derived.Test.YtflnpcgnenhogaaGreatDoorBd31
namespace Go.Proofs.YtflnpcgnenhogaaGreatDoor.ls
open Go.RowKit Go.Proofs.YtflnpcgnenhogaaGreatDoor.own Go.Proofs.YtflnpcgnenhogaaGreatDoor.bit

set_option maxRecDepth 100000 in
theorem dZag_any (u : Nat) (hu : u < 4611686018427387904) (w : World) : Calls Tryz.prog 113 #[.int .u64 (u : Int)] w fun e w' => e = .returned (.int .i64 (zag u)) ∧ Below w.heap.size w w' := by
 obtain ⟨r,hr⟩ : ∃ r,u % 2 = r := ⟨_,rfl⟩
 obtain ⟨q,hq⟩ : ∃ q,u / 2 = q := ⟨_,rfl⟩
 have Z : Hid (zag u = if r = 0 then (q : Int) else -(q : Int) - 1) := Lib.hid (by unfold zag; rw [hr,hq])
 have t1 : (u : Int) % 2 = (r : Int) := by omega
 have t2 : (u : Int) / 2 = (q : Int) := by omega
 have t3 : (u : Int).tmod 2 = (r : Int) := by rw [Int.tmod_eq_emod_of_nonneg (by omega)]; exact t1
 have t4 : (u : Int).tdiv 2 = (q : Int) := by rw [Int.tdiv_eq_ediv_of_nonneg (by omega)]; exact t2
 have w1 : IntKind.i64.wrap (q : Int) = (q : Int) := IntWalk.i64_in _ (by omega)
 have w2 : IntKind.i64.wrap (-(q : Int)) = -(q : Int) := IntWalk.i64_in _ (by omega)
 have w3 : IntKind.i64.wrap (-(q : Int) - 1) = -(q : Int) - 1 := IntWalk.i64_in _ (by omega)
 have w4 : IntKind.u64.wrap (q : Int) = (q : Int) := IntWalk.u64_in _ (by omega)
 have hr2 : r = 0 \/ r = 1 := by omega
 clear hr hq
 rcases hr2 with rfl | rfl
 ·go_enter Tryz.func113,Tryz.ntmps113
  go_wp2_with fail
  go_ret
  exact ⟨by rw [Z.out]; rfl,Below.refl _ _⟩
 ·go_enter Tryz.func113,Tryz.ntmps113
  go_wp2_with fail
  go_ret
  exact ⟨by rw [Z.out]; rfl,Below.refl _ _⟩
theorem zag_bound (u : Nat) (hu : u ≤ 1000000) : -1000001 ≤ zag u ∧ zag u ≤ 1000000 := by
 unfold zag
 split <;> omega
def ZagP (w : World) (wr : Option (Nat × Bits)) (rd : Option (Nat × ByteArray × Nat)) (rb : Nat) (aB : Option Addr) (dB : Nat) (B : Bits) (tb p : Nat) (bad : Bool) (rs : List Rw) (K : List (Nat × Obj)) (v : Int) (e : Ending) (w' : World) : Prop :=
 e = .returned (.int .i64 v) /\ DTR w wr rd rb aB dB B tb p (bad || decide (v < 0 \/ 65536 <= v)) rs K w'
set_option maxRecDepth 100000 in
set_option maxHeartbeats 3200000 in
theorem DTR.zag {w W : World} {wr : Option (Nat × Bits)} {rd : Option (Nat × ByteArray × Nat)} {rb : Nat} {aB : Option Addr} {dB : Nat} {B : Bits} {tb p : Nat} {bad : Bool} {rs : List Rw} {K : List (Nat × Obj)} (h : DTR w wr rd rb aB dB B tb p bad rs K W) (n x : Nat) (hn : n ≤ 1000000) (hx : x < 65536) :
  Calls Tryz.prog 88 #[.pointer (some ⟨tb,0,none⟩),.int .i64 (n : Int),.int .i64 (x : Int)] W (ZagP w wr rd rb aB dB B tb p bad rs K (ls.zag n + (x : Int))) := by
 have H := Lib.hid h
 have ZG := Lib.hid (dZag_any n (by omega) W)
 have hzb := zag_bound n hn
 obtain ⟨v,hv⟩ : ∃ v,ls.zag n = v := ⟨_,rfl⟩
 rw [hv] at ZG hzb ⊢
 have u1 : IntKind.u64.wrap (n : Int) = (n : Int) := IntWalk.u64_in _ (by omega)
 have w1 : IntKind.i64.wrap v = v := IntWalk.i64_in _ (by omega)
 obtain ⟨s,hs⟩ : ∃ s,v + (x : Int) = s := ⟨_,rfl⟩
 have w2 : IntKind.i64.wrap (v + (x : Int)) = s := by rw [IntWalk.i64_in _ (by omega)]; exact hs
 rw [hs]
 have hsb : -1000001 <= s /\ s <= 1065536 := by omega
 clear h hv hs
 go_enter Tryz.func88,Tryz.ntmps88
 go_wp2_with fail
 with_reducible refine ZG.out.mono ?_
 rintro e w2 ⟨rfl,k2⟩
 have D2 := Lib.hid (H.out.next k2)
 obtain ⟨-,c1,z⟩ := D2.out.cells
 have z1 := z 1
 clear k2 z ZG
 by_cases hlo : s < 0
 ·have D3 : Hid (DTR w wr rd rb aB dB B tb p (bad || decide (s < 0 \/ 65536 <= s)) rs K (w2.setCell ⟨tb,1,none⟩ (.bool true))) := Lib.hid (by
   have h := D2.out.mark true
   rw [decide_eq_true (.inl hlo),Bool.or_true]
   exact h)
  have i1 : decide (s < 0) = true := decide_eq_true hlo
  go_wp2_with fail
  go_ret
  exact ⟨rfl,D3.out⟩
 ·have i1 : decide (s < 0) = false := decide_eq_false hlo
  by_cases hhi : 65536 <= s
  ·have D3 : Hid (DTR w wr rd rb aB dB B tb p (bad || decide (s < 0 \/ 65536 <= s)) rs K (w2.setCell ⟨tb,1,none⟩ (.bool true))) := Lib.hid (by
    have h := D2.out.mark true
    rw [decide_eq_true (.inr hhi),Bool.or_true]
    exact h)
   have i2 : decide ((65536 : Int) <= s) = true := decide_eq_true hhi
   go_wp2_with fail
   go_ret
   exact ⟨rfl,D3.out⟩
  ·have D3 : Hid (DTR w wr rd rb aB dB B tb p (bad || decide (s < 0 \/ 65536 <= s)) rs K w2) := Lib.hid (by
    rw [decide_eq_false (by omega),Bool.or_false]
    exact D2.out)
   have i2 : decide ((65536 : Int) <= s) = false := decide_eq_false hhi
   go_wp2_with fail
   go_ret
   exact ⟨rfl,D3.out⟩
set_option maxRecDepth 100000 in
theorem dsame_any (w : World) (a b : Option Addr) (A B : Bits) (ca cb : Nat) (hl : A.length = B.length) (h9 : A.length ≤ 4611686018427387903) (ha : BlV w a A) (hb : BlV w b B) :
  Calls Tryz.prog 57 #[.slice a A.length ca,.slice b B.length cb] w fun e w' => e = .returned (.bool (decide (A = B))) /\ Below w.heap.size w w' := by
 have HA := Lib.hid ha
 have HB := Lib.hid hb
 obtain ⟨n,hn⟩ : ∃ n,A.length = n := ⟨_,rfl⟩
 have hnB : B.length = n := by rw [<- hl,hn]
 have HN := Lib.hid (And.intro hn hnB)
 rw [hn] at h9 ⊢
 rw [hnB]
 clear ha hb hl hn hnB
 go_enter Tryz.func57,Tryz.ntmps57
 go_wp2_with fail
 go_loopw [5] (fun v wl => ∃ i : Nat,v = .int .i64 (i : Int) /\ i <= n /\ A.take i = B.take i /\ Below w.heap.size w wl) (fun v _ => n - (intOf v).toNat)
 case atStart => exact ⟨0,rfl,Nat.zero_le _,rfl,Below.refl _ _⟩
 case round =>
  obtain ⟨i,rfl,hi,he,hb⟩ := hrel
  have HE := Lib.hid he
  have HBW := Lib.hid hb
  by_cases hlt : i < n
  ·obtain ⟨ga,oa,rfl,hga,hca⟩ := HA.out i (by rw [HN.out.1]; exact hlt)
   obtain ⟨gb,ob,rfl,hgb,hcb⟩ := HB.out i (by rw [HN.out.2]; exact hlt)
   have ca1 := (hb.cell hga).trans hca
   have cb1 := (hb.cell hgb).trans hcb
   have ST : Hid ((A[i]'(by rw [HN.out.1]; exact hlt)) = (B[i]'(by rw [HN.out.2]; exact hlt)) -> A.take (i + 1) = B.take (i + 1)) := Lib.hid (fun h => by
    rw [List.take_succ_eq_append_getElem (by rw [HN.out.1]; exact hlt),List.take_succ_eq_append_getElem (by rw [HN.out.2]; exact hlt),HE.out,h])
   have NO : Hid ((A[i]'(by rw [HN.out.1]; exact hlt)) ≠ (B[i]'(by rw [HN.out.2]; exact hlt)) -> A ≠ B) := Lib.hid (fun h e => by
    subst e
    exact h rfl)
   generalize (A[i]'(by rw [HN.out.1]; exact hlt)) = x at ca1 ST NO
   generalize (B[i]'(by rw [HN.out.2]; exact hlt)) = y at cb1 ST NO
   clear he hb hca hcb
   by_cases hxy : x = y
   ·subst hxy
    have S1 := Lib.hid (ST.out rfl)
    cases x
    ·go_upto_region 4 with fail
     go_big_region
     go_wp2_with fail
     go_roundw
     case rel => exact ⟨i + 1,by go_num,by omega,S1.out,Below.drew HBW.out⟩
     case measure => simp [intOf]; try omega
    ·go_upto_region 4 with fail
     go_big_region
     go_wp2_with fail
     go_roundw
     case rel => exact ⟨i + 1,by go_num,by omega,S1.out,Below.drew HBW.out⟩
     case measure => simp [intOf]; try omega
   ·have N1 : Hid (decide (A = B) = false) := Lib.hid (decide_eq_false (NO.out hxy))
    cases x <;> cases y
    ·exact absurd rfl hxy
    ·go_upto_region 4 with fail
     go_big_region
     go_wp2_with fail
     go_ret
     exact ⟨by rw [N1.out]; rfl,Below.drew HBW.out⟩
    ·go_upto_region 4 with fail
     go_big_region
     go_wp2_with fail
     go_ret
     exact ⟨by rw [N1.out]; rfl,Below.drew HBW.out⟩
    ·exact absurd rfl hxy
  ·have hin : i = n := by omega
   have Y1 : Hid (decide (A = B) = true) := Lib.hid (decide_eq_true (by
    have h := HE.out
    rw [List.take_of_length_le (by rw [HN.out.1]; omega),List.take_of_length_le (by rw [HN.out.2]; omega)] at h
    exact h))
   have i1 : decide ((i : Int) < (n : Int)) = false := decide_eq_false (by omega)
   clear he hb
   go_wp2_with fail
   go_ret
   exact ⟨by rw [Y1.out]; rfl,HBW.out⟩
def endD : Option Nat → Int
 | none => 0
 | some e => (e : Int)
def RowS (w : World) (wr : Option (Nat × Bits)) (rd : Option (Nat × ByteArray × Nat)) (rb : Nat) (aB : Option Addr) (dB : Nat) (B : Bits) (tb : Nat) (K : List (Nat × Obj)) (F : Option (List Nat × Nat)) (x most itv z : Nat) (vo ve vi : Value) (wl : World) : Prop :=
 ∃ (i : Nat) (en : Option Nat) (l : List Nat) (p' : Nat) (bad : Bool),ve = .int .i64 (endD en) /\ vi = .int .i64 (i : Int) /\ LngL F B x most itv z i en l p' bad /\ DTR w wr rd rb aB dB B tb p' bad [⟨77,vo,u32V l⟩] K wl
set_option maxRecDepth 100000 in
set_option maxHeartbeats 6400000 in
theorem drows_any {w W : World} {wr : Option (Nat × Bits)} {rd : Option (Nat × ByteArray × Nat)} {rb : Nat} {aB : Option Addr} {dB : Nat} {B : Bits} {tb p : Nat} {K : List (Nat × Obj)} (h : DTk w wr rd rb aB dB B tb p false K W)
  (x most win itv zet : Nat) (hx : x < 65536) (hm : most <= 65536) (hi1 : 1 <= itv) (hi2 : itv <= 64) :
  Calls Tryz.prog 85 #[.pointer (some ⟨tb,0,none⟩),.int .i64 (x : Int),.int .i64 (most : Int),.agg #[.int .i64 (win : Int),.int .i64 (itv : Int),.int .i64 (zet : Int)]] W (ListD (CopP (longs B x most itv p) most) w wr rd rb aB dB B tb K) := by
 obtain ⟨j0,hj,hj0,hj1,hj2⟩ := info_parts Tryz.infoU32
 have TT : Hid (∀ K' W' p' bad rs (_ : DTR w wr rd rb aB dB B tb p' bad rs K' W') (mi : Int) (most : Nat) (_ : mi = (most : Int)) (_ : most <= 1000000),Calls Tryz.prog 87 #[.pointer (some ⟨tb,0,none⟩),cdV .gam,.int .i64 mi] W' (DTakeR w wr rd rb aB dB B tb rs K' (tk B .gam most p') most bad)) := Lib.hid (fun K' W' p' bad rs h mi most e hm => by
  subst e
  exact h.take .gam trivial most hm)
 unfold cdV at TT
 have HB6 := Lib.hid h.2.2
 have h9 := (h.add #[.int .i64 (win : Int),.int .i64 (itv : Int),.int .i64 (zet : Int)] 36).add #[.int .u8 1,.int .u64 0] 104
 rw [show (W.alloc (.cells #[.int .i64 (win : Int),.int .i64 (itv : Int),.int .i64 (zet : Int)] 36)).heap.size = W.heap.size + 1 by simp] at h9
 obtain ⟨pb,hpb⟩ : ∃ z,W.heap.size = z := ⟨_,rfl⟩
 rw [hpb] at h9
 obtain ⟨K2,hK2⟩ : ∃ K', (pb + 1,Obj.cells #[.int .u8 1,.int .u64 0] 104 (0,0)) :: (pb,Obj.cells #[.int .i64 (win : Int),.int .i64 (itv : Int),.int .i64 (zet : Int)] 36 (0,0)) :: K = K' := ⟨_,rfl⟩
 rw [hK2] at h9
 have H0 := Lib.hid (h9.rows.lift (T := 77))
 have CC : Hid (∀ W' p' bad rs,DTR w wr rd rb aB dB B tb p' bad rs K2 W' -> W'.cell? ⟨pb + 1,0,none⟩ = some (.int .u8 1) /\ W'.cell? ⟨pb + 1,1,none⟩ = some (.int .u64 0) /\ W'.cell? ⟨pb,1,none⟩ = some (.int .i64 (itv : Int))) := Lib.hid (fun W' p' bad rs h => by
  have r : W'.heap[pb + 1]? = some (.cells #[.int .u8 1,.int .u64 0] 104 (0,0)) := h.has (q := (pb + 1,_)) (by rw [<- hK2]; exact List.mem_cons_self ..)
  have r2 : W'.heap[pb]? = some (.cells #[.int .i64 (win : Int),.int .i64 (itv : Int),.int .i64 (zet : Int)] 36 (0,0)) := h.has (q := (pb,_)) (by rw [<- hK2]; exact List.mem_cons_of_mem _ (List.mem_cons_self ..))
  exact ⟨by rw [cell_of_row _ _ _ _ _ _ r]; rfl,by rw [cell_of_row _ _ _ _ _ _ r]; rfl,by rw [cell_of_row _ _ _ _ _ _ r2]; rfl⟩)
 have LS : Hid (∀ W' p' bad rs,DTR w wr rd rb aB dB B tb p' bad rs K2 W' -> DTR w wr rd rb aB dB B tb p' bad rs K W') := Lib.hid (fun W' p' bad rs h => h.less (fun q hq => by rw [<- hK2]; exact List.mem_cons_of_mem _ (List.mem_cons_of_mem _ hq)) HB6.out)
 obtain ⟨F,hF⟩ : ∃ F,longs B x most itv p = F := ⟨_,rfl⟩
 have HF : Hid (F = (tk B .gam most p).bind fun q => lng B x most itv q.1 none 0 q.2) := Lib.hid (by rw [<- hF]; rfl)
 rw [hF]
 have T1 := Lib.hid (TT.out _ _ _ _ _ H0.out (most : Int) most rfl (by omega))
 obtain ⟨g0,g1,g2⟩ := CC.out _ _ _ _ H0.out
 clear h hF h9 hK2
 go_enter Tryz.func85,Tryz.ntmps85
 go_wp2_with fail
 generalize World.alloc (World.alloc W _) _ = W0 at H0 T1 g0 g1 g2 ⊢
 with_reducible refine T1.out.mono ?_
 rintro e w1 ⟨z,p1,bad1,rfl,hp,h1⟩
 have C1 : Hid (LngL F B x most itv z 0 none [] p1 bad1) := Lib.hid (by
  obtain ⟨q1,q2,q3⟩ := hp
  refine ⟨Nat.zero_le _,Nat.zero_le _,fun v hv => (by cases hv),fun e' h => (by cases h),⟨fun _ => rfl,fun _ => rfl⟩,fun hb => ?_,fun hb => ?_⟩
  ·cases ht : tk B .gam most p with
   | none => rw [HF.out,ht]; rfl
   | some q => have := (q1 q ht rfl).2.2; rw [hb] at this; cases this
  ·cases ht : tk B .gam most p with
   | none => have := (q2 (.inr ht)).2; rw [hb] at this; cases this
   | some q =>
    obtain ⟨rfl,rfl,-⟩ := q1 q ht rfl
    rw [HF.out,ht,Option.bind_some]
    cases lng B x most itv q.1 none 0 q.2 <;> rfl)
 have hz : z <= most := hp.2.2
 have H1 := Lib.hid h1
 obtain ⟨g0,g1,g2⟩ := CC.out _ _ _ _ h1
 clear hp h1 T1 HF H0
 go_wp2_with fail
 go_loopw [10,12,13] (fun v10 v12 v13 wl => RowS w wr rd rb aB dB B tb K2 F x most itv z v10 v12 v13 wl) (fun _ _ v13 _ => z - (intOf v13).toNat)
 case atStart => exact ⟨0,none,[],p1,bad1,rfl,rfl,C1.out,H1.out⟩
 case round =>
  rename World => wl
  obtain ⟨i,en,l,p', bad,rfl,rfl,hC,hD⟩ := hrel
  have CL := Lib.hid hC
  have D := Lib.hid hD
  obtain ⟨c1,c2,c3⟩ := hD.cells
  obtain ⟨g0,g1,g2⟩ := CC.out _ _ _ _ hD
  have hi : i <= z := hC.1
  have hll : l.length <= most := hC.2.1
  have hee := hC.2.2.2.1
  have hie := hC.2.2.2.2.1
  clear hC hD
  by_cases hlt : i < z
  ·have i1 : decide ((i : Int) < (z : Int)) = true := decide_eq_true (by omega)
   cases bad with
   | true =>
    have CF := Lib.hid (CL.out.fin (.inr rfl))
    go_wp2_with fail
    exact bodyPost_ret (v := u10) (by simp [results,Tryz.results85,go_sem]) rfl ⟨u10,l,p', _,rfl,CF.out,LS.out _ _ _ _ D.out⟩
   | false =>
    have T2 := Lib.hid (TT.out _ _ _ _ _ D.out 262144 262144 rfl (by omega))
    go_wp2_with fail
    with_reducible refine T2.out.mono ?_
    rintro e w2 ⟨v,p2,bad2,rfl,ht,h2⟩
    have hv9 : v <= 262144 := ht.2.2
    have HT1 := Lib.hid ht
    have D2 := Lib.hid h2
    obtain ⟨g0,g1,g2⟩ := CC.out _ _ _ _ h2
    clear ht h2 T2 c1 c2 c3 D
    go_upto_if 38 with fail
    go_cut [14] from 38 to 46 (fun v14 wc => v14 = .int .i64 (rowFrom x en v) /\ DTR w wr rd rb aB dB B tb p2 (bad2 || zagBad x en v) [⟨77,u10,u32V l⟩] K2 wc)
    case first =>
     cases en with
     | none =>
      have hi0 : i = 0 := hie.2 rfl
      have i0 : ((i : Int) == 0) = true := by rw [hi0]; rfl
      have ZG := Lib.hid (D2.out.zag v x (by omega) hx)
      clear hi0 hie
      go_wp2_with fail
      with_reducible refine ZG.out.mono ?_
      rintro e w3 ⟨rfl,h3⟩
      have D3 := Lib.hid h3
      clear h3 ZG
      go_wp2_with fail
      go_meet
      case rel => exact ⟨rfl,D3.out⟩
     | some e' =>
      have hi0 : i ≠ 0 := fun h => by have := hie.1 h; cases this
      have i0 : ((i : Int) == 0) = false := beq_eq_false_iff_ne.2 (by omega)
      have he9 := hee e' rfl
      have q1 : IntKind.i64.wrap ((v : Int) + endD (some e')) = (v : Int) + (e' : Int) := IntWalk.i64_in _ (by show _ <= (v : Int) + (e' : Int) /\ (v : Int) + (e' : Int) <= _; omega)
      have q2 : IntKind.i64.wrap ((v : Int) + (e' : Int) + 2) = rowFrom x (some e') v := by
       rw [IntWalk.i64_in _ (by omega)]
       show _ = (v : Int) + ((e' : Int) + 2)
       omega
      have D3 : Hid (DTR w wr rd rb aB dB B tb p2 (bad2 || zagBad x (some e') v) [⟨77,u10,u32V l⟩] K2 w2) := Lib.hid (by
       rw [show zagBad x (some e') v = false from rfl,Bool.or_false]
       exact D2.out)
      clear hie
      go_wp2_with fail
      go_meet
      case rel => exact ⟨rfl,D3.out⟩
    case rest =>
     obtain ⟨rfl,hD3⟩ := hcut
     have hrb := rowFrom_bound (x := x) hx hee hv9
     have D3 := Lib.hid hD3
     obtain ⟨g0,g1,g2⟩ := CC.out _ _ _ _ hD3
     clear hD3 D2 hee hie
     go_upto_region 12 with fail
     go_region_held3 (fun w' => w'.cell? ⟨pb + 1,0,none⟩ = some (.int .u8 1) /\ w'.cell? ⟨pb + 1,1,none⟩ = some (.int .u64 0) /\ w'.cell? ⟨pb,1,none⟩ = some (.int .i64 (itv : Int)))
      (first | exact CC.out _ _ _ _ D3.out | exact CC.out _ _ _ _ D3.out.drew | exact CC.out _ _ _ _ (by assumption) | exact CC.out _ _ _ _ (DTR.drew (by assumption)))
      (first | (go_at_call 87; refine (TT.out _ _ _ _ _ (by first | exact D3.out.drew | exact D3.out) (most : Int) most rfl (by omega)).mono ?_; rintro e w4 ⟨v2,p3,bad3,rfl,ht2,h4⟩))
     have HT2 := Lib.hid ht2
     have hv29 : v2 <= most := ht2.2.2
     have D4 := Lib.hid h4
     obtain ⟨c1,c2,c3⟩ := h4.cells
     have c31 := c3 1
     have own4 := h4.own
     unfold Rw.owned at own4
     dsimp only at own4
     obtain ⟨s10,d10,e10⟩ := own_shape own4
     rw [u32V_length] at e10
     subst e10
     obtain ⟨m,hm7⟩ : ∃ m,l.length = m := ⟨_,rfl⟩
     rw [hm7] at hll D4 ⊢
     obtain ⟨n,hn7⟩ : ∃ n,v2 + itv = n := ⟨_,rfl⟩
     obtain ⟨fr,hfr⟩ : ∃ f,rowFrom x en v = f := ⟨_,rfl⟩
     have q3 : IntKind.i64.wrap ((v2 : Int) + (itv : Int)) = (n : Int) := by rw [IntWalk.i64_in _ (by omega)]; omega
     have q4 : IntKind.i64.wrap (fr + (n : Int)) = fr + (n : Int) := IntWalk.i64_in _ (by omega)
     have q5 : IntKind.i64.wrap ((most : Int) - (m : Int)) = (most : Int) - (m : Int) := IntWalk.i64_in _ (by omega)
     have HQ := Lib.hid (And.intro hm7 (And.intro hn7 hfr))
     clear ht2 h4 c3 own4
     cases bad3 with
     | true =>
       have D5 := Lib.hid ((D4.out.mark true).lone.rows.lift (T := 77))
       have FN := Lib.hid (CL.out.no hlt hi1 HT1.out HT2.out (.inl rfl))
       go_wp2_with fail
       exact bodyPost_ret (v := .slice none 0 0) (by simp [results,Tryz.results85,go_sem]) rfl ⟨.slice none 0 0,[],p3,true,rfl,⟨Nat.zero_le _,fun v hv => (by cases hv),fun _ => FN.out,fun h => (by cases h)⟩,LS.out _ _ _ _ D5.out⟩
     | false =>
      by_cases hf : 65536 < fr + (n : Int)
      ·have o1 : decide ((65536 : Int) < fr + (n : Int)) = true := decide_eq_true hf
       have D5 := Lib.hid ((D4.out.mark true).lone.rows.lift (T := 77))
       have FN := Lib.hid (CL.out.no hlt hi1 HT1.out HT2.out (.inr (.inl (by rw [HQ.out.2.1,HQ.out.2.2]; exact hf))))
       go_wp2_with fail
       exact bodyPost_ret (v := .slice none 0 0) (by simp [results,Tryz.results85,go_sem]) rfl ⟨.slice none 0 0,[],p3,true,rfl,⟨Nat.zero_le _,fun v hv => (by cases hv),fun _ => FN.out,fun h => (by cases h)⟩,LS.out _ _ _ _ D5.out⟩
      ·have o1 : decide ((65536 : Int) < fr + (n : Int)) = false := decide_eq_false hf
       by_cases hg : most < m + n
       ·have o2 : decide ((most : Int) - (m : Int) < (n : Int)) = true := decide_eq_true (by omega)
        have D5 := Lib.hid ((D4.out.mark true).lone.rows.lift (T := 77))
        have FN := Lib.hid (CL.out.no hlt hi1 HT1.out HT2.out (.inr (.inr (by rw [HQ.out.1,HQ.out.2.1]; exact hg))))
        go_wp2_with fail
        exact bodyPost_ret (v := .slice none 0 0) (by simp [results,Tryz.results85,go_sem]) rfl ⟨.slice none 0 0,[],p3,true,rfl,⟨Nat.zero_le _,fun v hv => (by cases hv),fun _ => FN.out,fun h => (by cases h)⟩,LS.out _ _ _ _ D5.out⟩
       ·have o2 : decide ((most : Int) - (m : Int) < (n : Int)) = false := decide_eq_false (by omega)
        obtain ⟨h0f,hst⟩ := CL.out.step hlt HT1.out HT2.out rfl (by rw [HQ.out.2.1,HQ.out.2.2]; omega) (by rw [HQ.out.1,HQ.out.2.1]; omega)
        rw [HQ.out.2.1,HQ.out.2.2] at hst
        rw [HQ.out.2.2] at h0f
        obtain ⟨f,hff⟩ : ∃ f : Nat,fr = (f : Int) := ⟨fr.toNat,by omega⟩
        subst hff
        rw [Int.toNat_natCast] at hst
        have ST := Lib.hid hst
        have hfn : f + n <= 65536 := by omega
        have hn1 : 1 <= n := by have := HQ.out.2.1; omega
        clear hst
        go_wp2_with fail
        go_loopw [10,16] (fun v10 v16 wl => ∃ k : Nat,v16 = .int .i64 (k : Int) /\ k <= n /\ DTR w wr rd rb aB dB B tb p3 false [⟨77,v10,u32V (l ++ row (f,k))⟩] K2 wl) (fun _ v16 _ => n - (intOf v16).toNat)
        case atStart => exact ⟨0,rfl,Nat.zero_le _,by show DTR _ _ _ _ _ _ _ _ _ _ [⟨_,_,u32V (l ++ [])⟩] _ _; rw [List.append_nil]; exact D4.out⟩
        case round =>
         rename World => wi
         obtain ⟨k,rfl,hkn,hDk⟩ := hrel
         have Dk := Lib.hid hDk
         have hlk : (l ++ row (f,k)).length = m + k := by rw [List.length_append,HQ.out.1]; unfold row; rw [List.length_range']
         by_cases hkl : k < n
         ·have r1 : IntKind.i64.wrap ((f : Int) + (k : Int)) = (f : Int) + (k : Int) := IntWalk.i64_in _ (by omega)
          have r2 : IntKind.u32.wrap ((f : Int) + (k : Int)) = ((f + k : Nat) : Int) := by rw [IntKind.wrap_u32]; omega
          have own5 := (hDk.next ((Below.refl _ _).alloc (Nat.le_refl wi.heap.size) (.cells #[.int .u32 ((f + k : Nat) : Int)] 77))).own
          unfold Rw.owned at own5
          dsimp only at own5
          rw [u32V_length,hlk] at own5
          have OA := Lib.hid own5
          have C3 : Hid (m + k + 1 <= maxLen) := Lib.hid (by simp only [maxLen]; omega)
          have C4 : Hid ((m + k + 1) * 4 <= 140737488355328) := Lib.hid (by omega)
          have DA := Lib.hid (hDk.next ((Below.refl _ _).alloc (Nat.le_refl wi.heap.size) (.cells #[.int .u32 ((f + k : Nat) : Int)] 77)))
          have RW : Hid (l ++ row (f,k + 1) = (l ++ row (f,k)) ++ [f + k]) := Lib.hid (by unfold row; rw [List.append_assoc,List.range'_1_concat])
          have i5 : decide ((k : Int) < (n : Int)) = true := decide_eq_true (by omega)
          clear hDk own5
          go_wp2_with (at_builtin; refine wpList_append_at _ rfl _ _ 34 rfl 0 77 j0 _ 1 4 Tryz.underlying34 hj hj0 hj1 hj2 rfl (by decide) _ (m + k) _ rfl OA.out _ 1 1 [.int .u32 ((f + k : Nat) : Int)] rfl rfl (cell_one_new _ _ _) (fun u hu => by simp at hu; subst hu; rfl) C3.out C4.out (Nat.zero_le _) (by decide) ?_)
          intro v8 w8 own8 hg8 hw8
          have D8 : Hid (DTR w wr rd rb aB dB B tb p3 false [⟨77,v8,u32V (l ++ row (f,k + 1))⟩] K2 w8) := Lib.hid (by
           rw [RW.out]
           refine DA.out.push (v' := v8) (xs' := u32V ((l ++ row (f,k)) ++ [f + k])) ?_ hg8 (by simpa using hw8)
           rw [u32V_length,List.length_append,hlk,u32V_append]
           exact own8)
          clear own8 hg8 hw8 OA DA
          go_wp2_with fail
          go_roundw
          case rel => exact ⟨k + 1,by go_num,by omega,D8.out⟩
          case measure => simp [intOf]; try omega
         ·have hkn2 : k = n := by omega
          subst hkn2
          have i5 : decide ((k : Int) < (k : Int)) = false := decide_eq_false (by omega)
          have r3 : IntKind.i64.wrap ((f : Int) + (k : Int) - 1) = ((f + k - 1 : Nat) : Int) := by rw [IntWalk.i64_in _ (by omega)]; omega
          clear hDk
          go_wp2_with fail
          go_roundw
          case rel => exact ⟨i + 1,some (f + k - 1),l ++ row (f,k),p3,false,rfl,by go_num,ST.out,Dk.out⟩
          case measure => simp [intOf]; try omega
  ·have hiz : i = z := by omega
   have i1 : decide ((i : Int) < (z : Int)) = false := decide_eq_false (by omega)
   have CF := Lib.hid (CL.out.fin (.inl hiz))
   go_wp2_with fail
   exact bodyPost_ret (v := u10) (by simp [results,Tryz.results85,go_sem]) rfl ⟨u10,l,p', _,rfl,CF.out,LS.out _ _ _ _ D.out⟩
def mrg : List Nat → List Nat → Option (List Nat)
 | [],b => some b
 | x :: a,[] => some (x :: a)
 | x :: a,y :: b => if x < y then (mrg a (y :: b)).map (x :: ·) else if x = y then none else (mrg (x :: a) b).map (y :: ·)
termination_by a b => a.length + b.length
theorem mrg_nil (a : List Nat) : mrg a [] = some a := by
 cases a <;> simp [mrg]
theorem mrg_nil' (b : List Nat) : mrg [] b = some b := by simp [mrg]
theorem mrg_lt {x y : Nat} {a b : List Nat} (h : x < y) : mrg (x :: a) (y :: b) = (mrg a (y :: b)).map (x :: ·) := by
 rw [mrg,if_pos h]
theorem mrg_eq {x : Nat} {a b : List Nat} : mrg (x :: a) (x :: b) = none := by
 rw [mrg,if_neg (Nat.lt_irrefl _),if_pos rfl]
theorem mrg_gt {x y : Nat} {a b : List Nat} (h : y < x) : mrg (x :: a) (y :: b) = (mrg (x :: a) b).map (y :: ·) := by
 rw [mrg,if_neg (by omega),if_neg (by omega)]
theorem mrg_mem : ∀ (n : Nat) (a b l : List Nat), a.length + b.length ≤ n → mrg a b = some l → List.Perm l (a ++ b)
 | _,[],b,l,_,h => by rw [mrg_nil'] at h; cases h; exact List.Perm.refl _
 | _,x :: a,[],l,_,h => by rw [mrg_nil] at h; cases h; rw [List.append_nil]
 | 0,x :: a,y :: b,l,hn,h => by simp at hn
 | n + 1,x :: a,y :: b,l,hn,h => by
  simp only [List.length_cons] at hn
  rcases Nat.lt_trichotomy x y with hxy | rfl | hxy
  ·rw [mrg_lt hxy] at h
   cases hm : mrg a (y :: b) with
   | none => rw [hm] at h; cases h
   | some l' =>
    rw [hm] at h
    cases h
    exact List.Perm.cons x (mrg_mem n a (y :: b) l' (by simp only [List.length_cons]; omega) hm)
  ·rw [mrg_eq] at h; cases h
  ·rw [mrg_gt hxy] at h
   cases hm : mrg (x :: a) b with
   | none => rw [hm] at h; cases h
   | some l' =>
    rw [hm] at h
    cases h
    exact (List.Perm.cons y (mrg_mem n (x :: a) b l' (by simp only [List.length_cons]; omega) hm)).trans List.perm_middle.symm
theorem mrg_ris : ∀ (n : Nat) (a b l : List Nat), a.length + b.length ≤ n → a.Pairwise (· < ·) → b.Pairwise (· < ·) → mrg a b = some l → l.Pairwise (· < ·)
 | _,[],b,l,_,_,hb,h => by rw [mrg_nil'] at h; cases h; exact hb
 | _,x :: a,[],l,_,ha,_,h => by rw [mrg_nil] at h; cases h; exact ha
 | 0,x :: a,y :: b,l,hn,_,_,h => by simp at hn
 | n + 1,x :: a,y :: b,l,hn,ha,hb,h => by
  simp only [List.length_cons] at hn
  have ha' := List.pairwise_cons.1 ha
  have hb' := List.pairwise_cons.1 hb
  rcases Nat.lt_trichotomy x y with hxy | rfl | hxy
  ·rw [mrg_lt hxy] at h
   cases hm : mrg a (y :: b) with
   | none => rw [hm] at h; cases h
   | some l' =>
    rw [hm] at h
    cases h
    have hp := mrg_mem _ _ _ _ (Nat.le_refl _) hm
    refine List.pairwise_cons.2 ⟨fun v hv => ?_,mrg_ris n a (y :: b) l' (by simp only [List.length_cons]; omega) ha'.2 hb hm⟩
    rcases List.mem_append.1 (hp.mem_iff.1 hv) with hv | hv
    ·exact ha'.1 v hv
    ·rcases List.mem_cons.1 hv with rfl | hv
     ·exact hxy
     ·exact Nat.lt_trans hxy (hb'.1 v hv)
  ·rw [mrg_eq] at h; cases h
  ·rw [mrg_gt hxy] at h
   cases hm : mrg (x :: a) b with
   | none => rw [hm] at h; cases h
   | some l' =>
    rw [hm] at h
    cases h
    have hp := mrg_mem _ _ _ _ (Nat.le_refl _) hm
    refine List.pairwise_cons.2 ⟨fun v hv => ?_,mrg_ris n (x :: a) b l' (by simp only [List.length_cons]; omega) ha hb'.2 hm⟩
    rcases List.mem_append.1 (hp.mem_iff.1 hv) with hv | hv
    ·rcases List.mem_cons.1 hv with rfl | hv
     ·exact hxy
     ·exact Nat.lt_trans hxy (ha'.1 v hv)
    ·exact hb'.1 v hv
theorem mrg_some : ∀ (n : Nat) (a b : List Nat), a.length + b.length ≤ n → a.Pairwise (· < ·) → b.Pairwise (· < ·) → (∀ v ∈ a, v ∉ b) → ∃ l, mrg a b = some l
 | _,[],b,_,_,_,_ => ⟨b,mrg_nil' b⟩
 | _,x :: a,[],_,_,_,_ => ⟨x :: a,mrg_nil _⟩
 | 0,x :: a,y :: b,hn,_,_,_ => by simp at hn
 | n + 1,x :: a,y :: b,hn,ha,hb,hd => by
  simp only [List.length_cons] at hn
  rcases Nat.lt_trichotomy x y with hxy | rfl | hxy
  ·obtain ⟨l,hl⟩ := mrg_some n a (y :: b) (by simp only [List.length_cons]; omega) (List.pairwise_cons.1 ha).2 hb (fun v hv => hd v (List.mem_cons_of_mem _ hv))
   exact ⟨x :: l,by rw [mrg_lt hxy,hl]; rfl⟩
  ·exact absurd (List.mem_cons_self ..) (hd x (List.mem_cons_self ..))
  ·obtain ⟨l,hl⟩ := mrg_some n (x :: a) b (by simp only [List.length_cons]; omega) ha (List.pairwise_cons.1 hb).2 (fun v hv h => hd v hv (List.mem_cons_of_mem _ h))
   exact ⟨y :: l,by rw [mrg_gt hxy,hl]; rfl⟩
theorem cpy_sub {B : Bits} : ∀ (c i : Nat) (ref : List Nat) (a : Nat) (t : List Nat × List Nat × Nat), cpy B c i ref a = some t → (t.1 ++ t.2.1).Sublist ref
 | 0,i,ref,a,t,h => by injection h with h; subst h; exact List.Sublist.refl _
 | c + 1,i,ref,a,t,h => by
  rw [cpy] at h
  cases ht : tk B .gam ref.length a with
  | none => rw [ht] at h; cases h
  | some q =>
   rw [ht,Option.bind_some] at h
   split at h
   ·cases h
   ·cases hc : cpy B c (i + 1) (ref.drop (q.1 + min i 1)) q.2 with
    | none => rw [hc] at h; cases h
    | some t2 =>
     rw [hc] at h
     injection h with h
     subst h
     have ih := cpy_sub c _ _ _ t2 hc
     have e : ref = ref.take (q.1 + min i 1) ++ ref.drop (q.1 + min i 1) := (List.take_append_drop _ _).symm
     show ((if i % 2 = 0 then ref.take (q.1 + min i 1) else []) ++ t2.1 ++ t2.2.1).Sublist ref
     rw [List.append_assoc]
     split
     ·have k := List.Sublist.append (List.Sublist.refl (ref.take (q.1 + min i 1))) ih
      rwa [List.take_append_drop] at k
     ·rw [List.nil_append]
      exact ih.trans (List.drop_sublist _ _)
theorem copies_sub {B : Bits} {ref : List Nat} {a : Nat} {t : List Nat × Nat} (h : copies B ref a = some t) : t.1.Sublist ref := by
 unfold copies at h
 cases ht : tk B .gam (ref.length + 1) a with
 | none => rw [ht] at h; cases h
 | some q =>
  rw [ht,Option.bind_some] at h
  cases hc : cpy B q.1 0 ref q.2 with
  | none => rw [hc] at h; cases h
  | some t2 =>
   rw [hc] at h
   injection h with h
   subst h
   have ih := cpy_sub _ _ _ _ t2 hc
   show (if q.1 % 2 = 0 then t2.1 ++ t2.2.1 else t2.1).Sublist ref
   split
   ·exact ih
   ·exact (List.sublist_append_left _ _).trans ih
theorem row_ris (f n : Nat) : (row (f, n)).Pairwise (· < ·) := List.pairwise_lt_range' (s := f) (n := n)
theorem row_mem {f n v : Nat} (h : v ∈ row (f, n)) : f ≤ v ∧ v < f + n := by
 unfold row at h
 have := List.mem_range'_1.1 h
 dsimp only at this
 omega
theorem lng_ris {B : Bits} {x most itv : Nat} (hi : 1 ≤ itv) : ∀ (c : Nat) (e : Option Nat) (used a : Nat) (t : List Nat × Nat), lng B x most itv c e used a = some t → t.1.Pairwise (· < ·) ∧ ∀ e', e = some e' → ∀ v ∈ t.1, e' < v
 | 0,e,used,a,t,h => by injection h with h; subst h; exact ⟨List.Pairwise.nil,fun _ _ v hv => by cases hv⟩
 | c + 1,e,used,a,t,h => by
  rw [lng] at h
  cases ht : tk B .gam 262144 a with
  | none => rw [ht] at h; cases h
  | some q =>
   rw [ht,Option.bind_some] at h
   cases ht2 : tk B .gam most q.2 with
   | none => rw [ht2] at h; cases h
   | some q2 =>
    rw [ht2,Option.bind_some] at h
    split at h
    ·cases h
    ·next hno =>
     cases hc : lng B x most itv c (some ((rowFrom x e q.1).toNat + (q2.1 + itv) - 1)) (used + (q2.1 + itv)) q2.2 with
     | none => rw [hc] at h; cases h
     | some t2 =>
      rw [hc] at h
      injection h with h
      subst h
      obtain ⟨i1,i2⟩ := lng_ris hi c _ _ _ t2 hc
      obtain ⟨f,hf⟩ : ∃ f,(rowFrom x e q.1).toNat = f := ⟨_,rfl⟩
      rw [hf] at i2 ⊢
      refine ⟨List.pairwise_append.2 ⟨row_ris _ _,i1,fun u hu v hv => ?_⟩,fun e' he v hv => ?_⟩
      ·have := row_mem hu
       have := i2 _ rfl v hv
       omega
      ·subst he
       have hfe : e' < f := by
        have : rowFrom x (some e') q.1 = (q.1 : Int) + ((e' : Int) + 2) := rfl
        omega
       rcases List.mem_append.1 hv with hv | hv
       ·have := row_mem hv
        omega
       ·have := i2 _ rfl v hv
        omega
theorem longs_ris {B : Bits} {x most itv a : Nat} (hi : 1 ≤ itv) {t : List Nat × Nat} (h : longs B x most itv a = some t) : t.1.Pairwise (· < ·) := by
 unfold longs at h
 cases ht : tk B .gam most a with
 | none => rw [ht] at h; cases h
 | some q =>
  rw [ht,Option.bind_some] at h
  exact (lng_ris hi _ _ _ _ t h).1
theorem rsd_ris {B : Bits} {x zet : Nat} : ∀ (n : Nat) (e : Option Nat) (a : Nat) (t : List Nat × Nat), rsd B x zet n e a = some t → t.1.Pairwise (· < ·) ∧ t.1.length = n ∧ ∀ e', e = some e' → ∀ v ∈ t.1, e' < v
 | 0,e,a,t,h => by injection h with h; subst h; exact ⟨List.Pairwise.nil,rfl,fun _ _ v hv => by cases hv⟩
 | n + 1,e,a,t,h => by
  rw [rsd] at h
  cases ht : tk B (.zet zet) 262144 a with
  | none => rw [ht] at h; cases h
  | some q =>
   rw [ht,Option.bind_some] at h
   split at h
   ·cases h
   ·next hno =>
    cases hc : rsd B x zet n (some (resAt x e q.1).toNat) q.2 with
    | none => rw [hc] at h; cases h
    | some t2 =>
     rw [hc] at h
     injection h with h
     subst h
     obtain ⟨i1,i3,i2⟩ := rsd_ris n _ _ t2 hc
     obtain ⟨f,hf⟩ : ∃ f,(resAt x e q.1).toNat = f := ⟨_,rfl⟩
     rw [hf] at i2 ⊢
     refine ⟨List.pairwise_cons.2 ⟨fun v hv => i2 _ rfl v hv,i1⟩,by show t2.1.length + 1 = n + 1; rw [i3],fun e' he v hv => ?_⟩
     subst he
     have hfe : e' < f := by
      have : resAt x (some e') q.1 = (q.1 : Int) + ((e' : Int) + 1) := rfl
      omega
     rcases List.mem_cons.1 hv with rfl | hv
     ·exact hfe
     ·have := i2 _ rfl v hv
      omega
/-! ### residuals, round by round -/
def RsdL (F : Option (List Nat × Nat)) (B : Bits) (x zet m i : Nat) (e : Option Nat) (l : List Nat) (p : Nat) : Prop :=
 i <= m /\ l.length = i /\ (∀ v ∈ l,v < 65536) /\ (∀ e', e = some e' -> e' < 65536) /\ (i = 0 ↔ e = none) /\ F = (rsd B x zet (m - i) e p).map fun t => (l ++ t.1,t.2)
theorem rsd_succ (B : Bits) (x zet n : Nat) (e : Option Nat) (p : Nat) : rsd B x zet (n + 1) e p = (tk B (.zet zet) 262144 p).bind fun q => if resAt x e q.1 < 0 ∨ 65536 ≤ resAt x e q.1 then none else
      (rsd B x zet n (some (resAt x e q.1).toNat) q.2).map fun t => ((resAt x e q.1).toNat :: t.1, t.2) := rfl
section
variable {F : Option (List Nat × Nat)} {B : Bits} {x zet m i p v p2 : Nat} {e : Option Nat} {l : List Nat} {b2 : Bool}
theorem RsdL.start (B : Bits) (x zet m p : Nat) : RsdL (rsd B x zet m none p) B x zet m 0 none [] p :=
 ⟨Nat.zero_le _,rfl,fun v hv => (by cases hv),fun e' h => (by cases h),⟨fun _ => rfl,fun _ => rfl⟩,by
  show rsd B x zet m none p = Option.map _ (rsd B x zet m none p)
  cases rsd B x zet m none p <;> rfl⟩
theorem RsdL.no (h : RsdL F B x zet m i e l p) (hi : i < m) (t1 : TakeD (tk B (.zet zet) 262144 p) 262144 false v p2 b2) (hno : (b2 || zagBad x e v) = true ∨ 65536 ≤ resAt x e v) : F = none := by
 obtain ⟨h1,h2,h3,h4,h5,eq⟩ := h
 rw [show m - i = (m - i - 1) + 1 by omega,rsd_succ] at eq
 rw [eq]
 cases hk : tk B (.zet zet) 262144 p with
 | none => rfl
 | some q =>
  obtain ⟨rfl,rfl,rfl⟩ := t1.1 q hk rfl
  show (if _ then none else _).map _ = none
  rw [if_pos]
  ·rfl
  rcases hno with h | h
  ·rw [Bool.false_or] at h
   cases e with
   | some e' => cases h
   | none =>
    have h9 : zag q.1 + (x : Int) < 0 \/ 65536 <= zag q.1 + (x : Int) := of_decide_eq_true h
    exact h9
  ·exact .inr h
theorem RsdL.step (h : RsdL F B x zet m i e l p) (hi : i < m) (t1 : TakeD (tk B (.zet zet) 262144 p) 262144 false v p2 b2) (hb : (b2 || zagBad x e v) = false) (h8 : resAt x e v < 65536) :
  0 <= resAt x e v /\ RsdL F B x zet m (i + 1) (some (resAt x e v).toNat) (l ++ [(resAt x e v).toNat]) p2 := by
 obtain ⟨h1,h2,h3,h4,h5,eq⟩ := h
 rw [show m - i = (m - (i + 1)) + 1 by omega,rsd_succ] at eq
 have hb2a : b2 = false := by cases b2 <;> simp_all
 have hz : zagBad x e v = false := by cases b2 <;> simp_all
 subst hb2a
 cases hk : tk B (.zet zet) 262144 p with
 | none => have := (t1.2.1 (.inr hk)).2; cases this
 | some q =>
  obtain ⟨rfl,rfl,-⟩ := t1.1 q hk rfl
  have hpos : 0 <= resAt x e q.1 := by
   cases e with
   | none =>
    have h9 : ¬ (zag q.1 + (x : Int) < 0 \/ 65536 <= zag q.1 + (x : Int)) := of_decide_eq_false hz
    show 0 <= zag q.1 + (x : Int)
    omega
   | some e' =>
    show 0 <= (q.1 : Int) + ((e' : Int) + 1)
    omega
  rw [hk,Option.bind_some,if_neg (by omega)] at eq
  refine ⟨hpos,by omega,by rw [List.length_append,h2]; rfl,fun v hv => ?_,fun e' he => ?_,⟨fun h => by omega,fun h => by cases h⟩,?_⟩
  ·rcases List.mem_append.1 hv with hv | hv
   ·exact h3 v hv
   ·rw [List.mem_singleton.1 hv]
    omega
  ·cases he
   omega
  ·rw [eq,Option.map_map]
   exact congrArg (fun f => Option.map f _) (funext fun t => by simp [Function.comp])
theorem RsdL.fin (h : RsdL F B x zet m i e l p) (he : i = m) : F = some (l, p) := by
 obtain ⟨h1,h2,h3,h4,h5,eq⟩ := h
 subst he
 rw [eq,Nat.sub_self]
 show some (l ++ [],p) = some (l,p)
 rw [List.append_nil]
theorem resAt_bound (hx : x < 65536) (he : ∀ e', e = some e' → e' < 65536) (hv : v ≤ 262144) : -200000 ≤ resAt x e v ∧ resAt x e v ≤ 400000 := by
 cases e with
 | none =>
  show -200000 <= zag v + x /\ zag v + x <= 400000
  unfold zag
  split <;> omega
 | some e =>
  have := he e rfl
  show -200000 <= (v : Int) + ((e : Int) + 1) /\ (v : Int) + ((e : Int) + 1) <= 400000
  omega
end
/-! ### what bits say, merged -/
def dOut (z : Option (List Nat × List Nat × List Nat × Nat)) : Option (List Nat × Nat) :=
 z.bind fun t => if (srtN (t.1 ++ t.2.1 ++ t.2.2.1)).Pairwise (· < ·) then some (srtN (t.1 ++ t.2.1 ++ t.2.2.1),t.2.2.2) else none
theorem dOut_mrg {c l z : List Nat} {p : Nat} (hc : c.Pairwise (· < ·)) (hl : l.Pairwise (· < ·)) (hz : z.Pairwise (· < ·)) :
  dOut (some (c,l,z,p)) = ((mrg c l).bind fun o => mrg o z).map fun s => (s,p) := by
 show (if (srtN (c ++ l ++ z)).Pairwise (· < ·) then some (srtN (c ++ l ++ z),p) else none) = _
 have fwd : ∀ s,((mrg c l).bind fun o => mrg o z) = some s -> srtN (c ++ l ++ z) = s /\ s.Pairwise (· < ·) := fun s hs => by
  cases h1 : mrg c l with
  | none => rw [h1] at hs; cases hs
  | some o =>
   rw [h1,Option.bind_some] at hs
   have p1 := mrg_mem _ _ _ _ (Nat.le_refl _) h1
   have p2 := mrg_mem _ _ _ _ (Nat.le_refl _) hs
   have r1 := mrg_ris _ _ _ _ (Nat.le_refl _) hc hl h1
   have r2 := mrg_ris _ _ _ _ (Nat.le_refl _) r1 hz hs
   exact ⟨srtN_eq (p2.trans (p1.append_right z)) r2,r2⟩
 by_cases h : (srtN (c ++ l ++ z)).Pairwise (· < ·)
 ·rw [if_pos h]
  have nd : (c ++ l ++ z).Nodup := (srtN_perm _).nodup_iff.1 (nodup_of h)
  have nd1 := List.nodup_append.1 nd
  have nd2 := List.nodup_append.1 nd1.1
  obtain ⟨o,ho⟩ := mrg_some _ c l (Nat.le_refl _) hc hl (fun v h1 h2 => nd2.2.2 v h1 v h2 rfl)
  have p1 := mrg_mem _ _ _ _ (Nat.le_refl _) ho
  obtain ⟨s,hs⟩ := mrg_some _ o z (Nat.le_refl _) (mrg_ris _ _ _ _ (Nat.le_refl _) hc hl ho) hz (fun v h1 h2 => nd1.2.2 v (p1.mem_iff.1 h1) v h2 rfl)
  have e : ((mrg c l).bind fun o => mrg o z) = some s := by rw [ho,Option.bind_some,hs]
  rw [e,(fwd s e).1]
  rfl
 ·rw [if_neg h]
  cases e : ((mrg c l).bind fun o => mrg o z) with
  | none => rfl
  | some s =>
   have := fwd s e
   rw [this.1] at h
   exact absurd this.2 h
theorem cop0_sub {B : Bits} {ref : List Nat} {r a : Nat} {t : List Nat × Nat} (h : cop0 B ref r a = some t) : t.1.Sublist ref := by
 unfold cop0 at h
 split at h
 ·exact copies_sub h
 ·injection h with h
  subst h
  exact List.nil_sublist _
theorem lng0_ris {B : Bits} {x deg itv a : Nat} {c : List Nat} {t : List Nat × Nat} (h : lng0 B x deg itv c a = some t) : t.1.Pairwise (· < ·) := by
 unfold lng0 at h
 split at h
 ·next hc => exact longs_ris hc.2 h
 ·injection h with h
  subst h
  exact List.Pairwise.nil
theorem dOut_none1 {B : Bits} {x deg : Nat} {ref : List Nat} {r : Nat} {p : Pr} {a : Nat} (h : cop0 B ref r a = none) : dOut (pars B x deg ref r p a) = none := by
 rw [pars_eq,h]
 rfl
theorem dOut_none2 {B : Bits} {x deg : Nat} {ref : List Nat} {r : Nat} {p : Pr} {a : Nat} {c : List Nat} {p1 : Nat} (h : cop0 B ref r a = some (c, p1)) (hd : deg < c.length) : dOut (pars B x deg ref r p a) = none := by
 rw [pars_eq,h,Option.bind_some,if_pos hd]
 rfl
theorem dOut_none3 {B : Bits} {x deg : Nat} {ref : List Nat} {r : Nat} {p : Pr} {a : Nat} {c : List Nat} {p1 : Nat} (h : cop0 B ref r a = some (c, p1)) (hd : ¬ deg < c.length) (hl : lng0 B x deg p.itv c p1 = none) : dOut (pars B x deg ref r p a) = none := by
 rw [pars_eq,h,Option.bind_some,if_neg hd,hl]
 rfl
theorem dOut_eq {B : Bits} {x deg : Nat} {ref : List Nat} {r : Nat} {p : Pr} {a : Nat} {c l : List Nat} {p1 p2 : Nat} (hr : ref.Pairwise (· < ·)) (h : cop0 B ref r a = some (c, p1)) (hd : ¬ deg < c.length) (hl : lng0 B x deg p.itv c p1 = some (l, p2)) :
  dOut (pars B x deg ref r p a) = (rsd B x p.zet (deg - c.length - l.length) none p2).bind fun q => ((mrg c l).bind fun o => mrg o q.1).map fun s => (s,q.2) := by
 rw [pars_eq,h,Option.bind_some,if_neg hd,hl,Option.bind_some]
 dsimp only
 cases hz : rsd B x p.zet (deg - c.length - l.length) none p2 with
 | none => rfl
 | some q => exact dOut_mrg (hr.sublist (cop0_sub h)) (lng0_ris hl) (rsd_ris _ _ _ _ hz).1
theorem KA.stands {W : World} {base : Nat} {ka : List (Nat × Obj)} {v : Value} {l : List Nat} (hk : KA ka v) (h : W.ownsRow base 77 1 v l.length (u32V l)) (hl : l.length ≤ 1000000) (hb : ∀ x ∈ l, x < 4294967296) (hW : ∀ p ∈ ka, W.heap[p.1]? = some p.2) :
  ∃ (s : Option Addr) (d : Nat),v = .slice s l.length d /\ l.length <= d /\ Stands ka s l := by
 rcases h.2 with ⟨rfl,h0⟩ | ⟨g,cap,cur,rfl,hbg,hg,hn,_,_,htake⟩
 ·have hl0 : l = [] := List.eq_nil_of_length_eq_zero h0
  subst hl0
  exact ⟨(Option.none : Option Addr),0,rfl,Nat.le_refl _,fun W _ => LV.nil⟩
 ·obtain ⟨o,ho⟩ := hk.1 g rfl
  have ho2 := hW _ ho
  dsimp only at ho2
  rw [hg] at ho2
  injection ho2 with ho2
  subst ho2
  refine ⟨_,cap,rfl,hn,fun W' hW' => ⟨by omega,fun i hi => ?_⟩⟩
  have hr := hW' _ ho
  refine ⟨g,0,rfl,lt_of_block hr,?_,hb _ (List.getElem_mem hi)⟩
  have hx : (u32V l)[i]? = some (.int .u32 (l[i] : Int)) := by unfold u32V; rw [List.getElem?_map,List.getElem?_eq_getElem hi]; rfl
  rw [<- htake,List.getElem?_take_of_lt (by omega)] at hx
  rw [Nat.zero_add,cell_of_row _ _ _ _ _ _ hr,<- Array.getElem?_toList]
  exact hx
def DRR (w : World) (wr : Option (Nat × Bits)) (rd : Option (Nat × ByteArray × Nat)) (rb : Nat) (aB : Option Addr) (dB : Nat) (B : Bits) (p : Nat) (rs : List Rw) (K : List (Nat × Obj)) (W : World) : Prop :=
 Rws w wr rd rs ((rb,rdRow aB dB B p) :: K) W /\ (∀ q ∈ K,q.1 ≠ rb) /\ BSt K aB B /\ p <= B.length /\ B.length <= dB /\ B.length <= 4611686018427387903 /\ (aB = none /\ dB = 0 \/ ∃ g o,aB = some ⟨g,o,none⟩)
section
variable {w W W2 : World} {wr : Option (Nat × Bits)} {rd : Option (Nat × ByteArray × Nat)} {rb : Nat} {aB : Option Addr} {dB : Nat} {B : Bits} {tb p : Nat} {bad : Bool} {rs : List Rw} {K K' : List (Nat × Obj)} {v : Value} {l : List Nat}
theorem DTR.still (h : DTR w wr rd rb aB dB B tb p bad (⟨77, v, u32V l⟩ :: rs) K W) (hl : l.length ≤ 1000000) (hb : ∀ x ∈ l, x < 4294967296) :
  ∃ (ka : List (Nat × Obj)) (s : Option Addr) (d : Nat),v = .slice s l.length d /\ l.length <= d /\ Stands ka s l /\ DTR w wr rd rb aB dB B tb p bad rs (ka ++ K) W := by
 obtain ⟨⟨ka,h1,h2,h3,h4⟩,h5,h6,h7,h8⟩ := h
 unfold Rw.owned at h2
 dsimp only at h1 h2 h3
 rw [u32V_length] at h2
 obtain ⟨s,d,e1,e2,e3⟩ := h1.stands h2 hl hb (fun p hp => h4.has (List.mem_append_left _ hp))
 refine ⟨ka,s,d,e1,e2,e3,h4.sub (fun q hq => ?_),fun q hq => ?_,h6,h7.more (fun q hq => List.mem_append_right _ hq),h8⟩
 ·simp only [List.mem_cons,List.mem_append] at hq ⊢
  rcases hq with hq | hq | hq | hq
  ·exact .inr (.inl hq)
  ·exact .inr (.inr (.inl hq))
  ·exact .inl hq
  ·exact .inr (.inr (.inr hq))
 ·rcases List.mem_append.1 hq with hq | hq
  ·have hr := h1.2 q hq
   exact ⟨fun e => h3 (rb,_) (List.mem_cons_self ..) (by show some rb = _; rw [<- e]; exact hr),fun e => h3 (tb,_) (List.mem_cons_of_mem _ (List.mem_cons_self ..)) (by show some tb = _; rw [<- e]; exact hr)⟩
  ·exact h5 q hq
theorem DTR.fresh (h : DTR w wr rd rb aB dB B tb p bad rs K W) (k : Below W.heap.size W W2) (own : W2.ownsRow W.heap.size 77 1 v l.length (u32V l)) : DTR w wr rd rb aB dB B tb p bad (⟨77, v, u32V l⟩ :: rs) K W2 :=
 ⟨h.1.fresh k (by rw [u32V_length]; exact own),h.2⟩
theorem DTR.drop (h : DTR w wr rd rb aB dB B tb p bad rs K W) : DRR w wr rd rb aB dB B p rs K W :=
 ⟨h.1.sub (fun q hq => by
  simp only [List.mem_cons] at hq ⊢
  rcases hq with hq | hq
  ·exact .inl hq
  ·exact .inr (.inr hq)),fun q hq => (h.2.1 q hq).1,h.2.2.2⟩
theorem DRR.less (h : DRR w wr rd rb aB dB B p rs K W) (hs : ∀ q ∈ K', q ∈ K) (hb : BSt K' aB B) : DRR w wr rd rb aB dB B p rs K' W :=
 ⟨h.1.sub (fun q hq => by
  simp only [List.mem_cons] at hq ⊢
  rcases hq with hq | hq
  ·exact .inl hq
  ·exact .inr (hs q hq)),fun q hq => h.2.1 q (hs q hq),hb,h.2.2.2⟩
theorem DRR.next (h : DRR w wr rd rb aB dB B p rs K W) (k : Below W.heap.size W W2) : DRR w wr rd rb aB dB B p rs K W2 := ⟨h.1.next k, h.2⟩
theorem DRR.has (h : DRR w wr rd rb aB dB B p rs K W) {q : Nat × Obj} (hq : q ∈ K) : W.heap[q.1]? = some q.2 := h.1.has (List.mem_cons_of_mem _ hq)
theorem DRR.below (h : DRR w wr rd rb aB dB B p rs K W) : Below w.heap.size w W := h.1.below
theorem DRR.cells (h : DRR w wr rd rb aB dB B p rs K W) : W.cell? ⟨rb, 0, none⟩ = some (.slice aB B.length dB) ∧ W.cell? ⟨rb, 1, none⟩ = some (.int .i64 (p : Int)) ∧ W.frozen? ⟨rb, 1, none⟩ = false := by
 have r : W.heap[rb]? = some (rdRow aB dB B p) := h.1.has (p := (rb,rdRow aB dB B p)) (List.mem_cons_self ..)
 unfold rdRow at r
 exact ⟨by rw [cell_of_row _ _ _ _ _ _ r]; rfl,by rw [cell_of_row _ _ _ _ _ _ r]; rfl,frozen_of_row W rb 1 _ _ r⟩
theorem DRR.lone (h : DRR w wr rd rb aB dB B p [] K W) : DRd w wr rd rb aB dB B p K W := h
theorem DRd.rows (h : DRd w wr rd rb aB dB B p K W) : DRR w wr rd rb aB dB B p [] K W := h
theorem DRR.set (h : DRR w wr rd rb aB dB B p rs K W) (p' : Nat) (hp : p' ≤ B.length) : DRR w wr rd rb aB dB B p' rs K (W.setCell ⟨rb, 1, none⟩ (.int .i64 (p' : Int))) :=
 ⟨h.1.store (j := 1) (.int .i64 (p' : Int)) h.2.1,h.2.1,h.2.2.1,hp,h.2.2.2.2⟩
theorem DTk.start (h : DRd w wr rd rb aB dB B p K W) : DTk w wr rd rb aB dB B W.heap.size p false K (W.alloc (.cells #[.pointer (some ⟨rb, 0, none⟩), .bool false] 155)) :=
 ⟨h.add _ _,fun q hq e => by
  have := lt_of_block (h.1.row (b := q.1) (o := q.2) (List.mem_cons_of_mem _ hq))
  omega,h.2.2.1⟩
end
def DocP (z : Option (List Nat × Nat)) (deg : Nat) (w : World) (wr : Option (Nat × Bits)) (rd : Option (Nat × ByteArray × Nat)) (rb : Nat) (aB : Option Addr) (dB : Nat) (B : Bits) (K : List (Nat × Obj)) (e : Ending) (w' : World) : Prop :=
 ∃ (v : Value) (l : List Nat) (p' : Nat) (ok : Bool),e = .returned (.tuple #[v,.bool ok]) /\ (ok = true -> z = some (l,p') /\ l.length = deg) /\ (ok = false -> z = none) /\ l.length <= 1000000 /\ (∀ u ∈ l,u < 65536) /\ DRR w wr rd rb aB dB B p' [⟨77,v,u32V l⟩] K w'
set_option maxRecDepth 100000 in
set_option maxHeartbeats 6400000 in
theorem dcopies_none {w W : World} {wr : Option (Nat × Bits)} {rd : Option (Nat × ByteArray × Nat)} {rb : Nat} {aB : Option Addr} {dB : Nat} {B : Bits} {tb p : Nat} {K : List (Nat × Obj)} (h : DTk w wr rd rb aB dB B tb p false K W)
  (cap : Nat) :
  Calls Tryz.prog 84 #[.pointer (some ⟨tb,0,none⟩),.slice none 0 cap] W (ListD (CopP (copies B [] p) 0) w wr rd rb aB dB B tb K) := by
 obtain ⟨j0,hj,hj0,hj1,hj2⟩ := info_parts Tryz.infoU32
 have HB6 := Lib.hid h.2.2
 have h9 := h.add #[.int .u8 1,.int .u64 0] 104
 obtain ⟨cb,hcb⟩ : ∃ z,W.heap.size = z := ⟨_,rfl⟩
 rw [hcb] at h9
 obtain ⟨K2,hK2⟩ : ∃ K', (cb,Obj.cells #[.int .u8 1,.int .u64 0] 104 (0,0)) :: K = K' := ⟨_,rfl⟩
 rw [hK2] at h9
 have H0 := Lib.hid (h9.rows.lift (T := 77))
 have CC : Hid (∀ W' p' bad rs,DTR w wr rd rb aB dB B tb p' bad rs K2 W' -> W'.cell? ⟨cb,0,none⟩ = some (.int .u8 1) /\ W'.cell? ⟨cb,1,none⟩ = some (.int .u64 0)) := Lib.hid (fun W' p' bad rs h => by
  have r : W'.heap[cb]? = some (.cells #[.int .u8 1,.int .u64 0] 104 (0,0)) := h.has (q := (cb,_)) (by rw [<- hK2]; exact List.mem_cons_self ..)
  exact ⟨by rw [cell_of_row _ _ _ _ _ _ r]; rfl,by rw [cell_of_row _ _ _ _ _ _ r]; rfl⟩)
 have LS : Hid (∀ W' p' bad rs,DTR w wr rd rb aB dB B tb p' bad rs K2 W' -> DTR w wr rd rb aB dB B tb p' bad rs K W') := Lib.hid (fun W' p' bad rs h => h.less (fun q hq => by rw [<- hK2]; exact List.mem_cons_of_mem _ hq) HB6.out)
 have TT : Hid (∀ W' p' bad rs (_ : DTR w wr rd rb aB dB B tb p' bad rs K2 W') (mi : Int) (most : Nat) (_ : mi = (most : Int)) (_ : most <= 1000000),Calls Tryz.prog 87 #[.pointer (some ⟨tb,0,none⟩),cdV .gam,.int .i64 mi] W' (DTakeR w wr rd rb aB dB B tb rs K2 (tk B .gam most p') most bad)) := Lib.hid (fun W' p' bad rs h mi most e hm => by
  subst e
  exact h.take .gam trivial most hm)
 obtain ⟨F,hF⟩ : ∃ F,copies B [] p = F := ⟨_,rfl⟩
 have HF : Hid (F = (tk B .gam 1 p).bind fun q => (cpy B q.1 0 [] q.2).map fun t => (if q.1 % 2 = 0 then t.1 ++ t.2.1 else t.1,t.2.2)) := Lib.hid (by rw [<- hF]; rfl)
 rw [hF]
 unfold cdV at TT
 have T1 := Lib.hid (TT.out _ _ _ _ H0.out 1 1 rfl (by omega))
 obtain ⟨g0,g1⟩ := CC.out _ _ _ _ H0.out
 clear h hF h9 hK2
 go_enter Tryz.func84,Tryz.ntmps84
 go_wp2_with fail
 generalize World.alloc W _ = W0 at H0 T1 g0 g1 ⊢
 with_reducible refine T1.out.mono ?_
 rintro e w1 ⟨z,p1,bad1,rfl,hp,h1⟩
 have C1 : Hid (CopL F B [] z 0 0 [] p1 bad1) := Lib.hid (by
  obtain ⟨q1,q2,q3⟩ := hp
  refine ⟨Nat.zero_le _,Nat.zero_le _,Nat.le_refl _,fun v hv => (by cases hv),fun hb => ?_,fun hb => ?_⟩
  ·cases ht : tk B .gam 1 p with
   | none => rw [HF.out,ht]; rfl
   | some q => have := (q1 q ht rfl).2.2; rw [hb] at this; cases this
  ·cases ht : tk B .gam 1 p with
   | none => have := (q2 (.inr ht)).2; rw [hb] at this; cases this
   | some q =>
    obtain ⟨rfl,rfl,-⟩ := q1 q ht rfl
    rw [HF.out,ht]
    rfl)
 have hz : z <= 1 := hp.2.2
 have H1 := Lib.hid h1
 obtain ⟨g0,g1⟩ := CC.out _ _ _ _ h1
 clear hp h1 T1 HF H0
 go_wp2_with fail
 go_loopw [7,8,9] (fun v7 v8 v9 wl => CopS w wr rd rb aB dB B tb K2 F [] z v7 v8 v9 wl) (fun _ _ v9 _ => z - (intOf v9).toNat)
 case atStart => exact ⟨0,0,[],p1,bad1,rfl,rfl,C1.out,H1.out⟩
 case round =>
  rename World => wl
  obtain ⟨i,k,l,p', bad,rfl,rfl,hC,hD⟩ := hrel
  have hk0 : k = 0 := Nat.le_zero.1 hC.2.1
  subst hk0
  have hl0 : l = [] := List.eq_nil_of_length_eq_zero (Nat.le_zero.1 hC.2.2.1)
  subst hl0
  have hi : i <= z := hC.1
  have CL := Lib.hid hC
  have OWN : Hid (wl.ownsRow 0 77 1 u7 0 (u32V [])) := Lib.hid hD.own
  obtain ⟨s7,c7,e7⟩ := own_shape OWN.out
  subst e7
  have D := Lib.hid hD
  obtain ⟨c1,c2,c3⟩ := hD.cells
  obtain ⟨g0,g1⟩ := CC.out _ _ _ _ hD
  have C3 : Hid (0 + 0 <= maxLen) := Lib.hid (Nat.zero_le _)
  have C4 : Hid ((0 + 0) * 4 <= 140737488355328) := Lib.hid (by omega)
  have b1 : (0 : Int) <= 0 := Int.le_refl _
  have e6 : IntKind.i64.wrap 0 = 0 := by decide
  clear hC hD
  by_cases hlt : i < z
  ·have i1 : decide ((i : Int) < (z : Int)) = true := decide_eq_true (by omega)
   cases bad with
   | false =>
    --A
    have T2 := Lib.hid (TT.out _ _ _ _ D.out 0 0 rfl (by omega))
    go_wp2_with fail
    with_reducible refine T2.out.mono ?_
    rintro e w2 ⟨v,p2,bad2,rfl,ht,h2⟩
    have hv0 : v = 0 := Nat.le_zero.1 ht.2.2
    subst hv0
    have hi0 : i = 0 := by omega
    have ST : Hid (CopL F B [] z (i + 1) 0 [] p2 bad2) := Lib.hid (by
     have h := CL.out.step (fun v hv => (by cases hv)) hlt ht (by rw [hi0]; exact Nat.le_refl _)
     rw [hi0] at h ⊢
     exact h)
    have t2 : (i : Int).tmod 2 = 0 := by rw [hi0]; rfl
    have i0 : decide ((0 : Int) < (i : Int)) = false := decide_eq_false (by omega)
    have OWN2 : Hid (w2.ownsRow 0 77 1 (.slice s7 0 c7) 0 (u32V [])) := Lib.hid h2.own
    have D2 := Lib.hid h2
    obtain ⟨d1,d2,d3⟩ := h2.cells
    obtain ⟨g0,g1⟩ := CC.out _ _ _ _ h2
    clear ht h2 T2 c1 c2 c3 D hi0
    go_wp2_with (at_builtin; refine wpList_append_lv _ rfl _ _ 34 rfl 0 77 j0 _ 4 Tryz.underlying34 hj hj0 hj1 hj2 rfl _ 0 _ rfl OWN2.out none 0 _ ([] : List Nat) rfl rfl LV.nil C3.out C4.out (Nat.zero_le _) ?_)
    intro v8 w8 own8 hg8 hw8
    have D8 := Lib.hid (D2.out.push (v' := v8) (xs' := u32V []) own8 hg8 hw8)
    clear own8 hg8 hw8
    go_wp2_with fail
    go_roundw
    case rel => exact ⟨i + 1,0,[],p2,bad2,rfl,by go_num,ST.out,D8.out⟩
    case measure => simp [intOf]; try omega
   | true =>
    have FQ : Hid (CopP F 0 (if z % 2 = 0 then [] ++ ([] : List Nat).drop 0 else []) p' true) := Lib.hid (CL.out.fin (fun v hv => (by cases hv)) (.inr rfl))
    rw [show (if z % 2 = 0 then [] ++ ([] : List Nat).drop 0 else []) = ([] : List Nat) from by split <;> rfl] at FQ
    obtain ⟨r2,hr2⟩ : ∃ r,z % 2 = r := ⟨_,rfl⟩
    have t2 : (z : Int).tmod 2 = (r2 : Int) := by rw [Int.tmod_eq_emod_of_nonneg (by omega)]; omega
    clear hr2
    by_cases hz2 : r2 = 0
    ·subst hz2
     go_wp2_with (at_builtin; refine wpList_append_lv _ rfl _ _ 34 rfl 0 77 j0 _ 4 Tryz.underlying34 hj hj0 hj1 hj2 rfl _ 0 _ rfl OWN.out none 0 _ ([] : List Nat) rfl rfl LV.nil C3.out C4.out (Nat.zero_le _) ?_)
     intro v8 w8 own8 hg8 hw8
     have D8 := Lib.hid (D.out.push (v' := v8) (xs' := u32V []) own8 hg8 hw8)
     clear own8 hg8 hw8
     go_wp2_with fail
     exact bodyPost_ret (v := v8) (by simp [results,Tryz.results84,go_sem]) rfl ⟨v8,[],p', _,rfl,FQ.out,LS.out _ _ _ _ D8.out⟩
    ·have i2 : ((r2 : Int) == 0) = false := beq_eq_false_iff_ne.2 (by omega)
     go_wp2_with fail
     exact bodyPost_ret (v := .slice s7 0 c7) (by simp [results,Tryz.results84,go_sem]) rfl ⟨.slice s7 0 c7,[],p', _,rfl,FQ.out,LS.out _ _ _ _ D.out⟩
  ·have hiz : i = z := by omega
   have i1 : decide ((i : Int) < (z : Int)) = false := decide_eq_false (by omega)
   have FQ : Hid (CopP F 0 (if z % 2 = 0 then [] ++ ([] : List Nat).drop 0 else []) p' bad) := Lib.hid (CL.out.fin (fun v hv => (by cases hv)) (.inl hiz))
   rw [show (if z % 2 = 0 then [] ++ ([] : List Nat).drop 0 else []) = ([] : List Nat) from by split <;> rfl] at FQ
   obtain ⟨r2,hr2⟩ : ∃ r,z % 2 = r := ⟨_,rfl⟩
   have t2 : (z : Int).tmod 2 = (r2 : Int) := by rw [Int.tmod_eq_emod_of_nonneg (by omega)]; omega
   clear hr2
   by_cases hz2 : r2 = 0
   ·subst hz2
    go_wp2_with (at_builtin; refine wpList_append_lv _ rfl _ _ 34 rfl 0 77 j0 _ 4 Tryz.underlying34 hj hj0 hj1 hj2 rfl _ 0 _ rfl OWN.out none 0 _ ([] : List Nat) rfl rfl LV.nil C3.out C4.out (Nat.zero_le _) ?_)
    intro v8 w8 own8 hg8 hw8
    have D8 := Lib.hid (D.out.push (v' := v8) (xs' := u32V []) own8 hg8 hw8)
    clear own8 hg8 hw8
    go_wp2_with fail
    exact bodyPost_ret (v := v8) (by simp [results,Tryz.results84,go_sem]) rfl ⟨v8,[],p', _,rfl,FQ.out,LS.out _ _ _ _ D8.out⟩
   ·have i2 : ((r2 : Int) == 0) = false := beq_eq_false_iff_ne.2 (by omega)
    go_wp2_with fail
    exact bodyPost_ret (v := .slice s7 0 c7) (by simp [results,Tryz.results84,go_sem]) rfl ⟨.slice s7 0 c7,[],p', _,rfl,FQ.out,LS.out _ _ _ _ D.out⟩
def MrgP (z : Option (List Nat)) (w : World) (e : Ending) (w' : World) : Prop :=
 (∀ l,z = some l -> ∃ v,e = .returned (.tuple #[v,.bool true]) /\ w'.ownsRow w.heap.size 77 1 v l.length (u32V l) /\ Below w.heap.size w w') /\ (z = none -> e = .returned (.tuple #[.slice none 0 0,.bool false]) /\ Below w.heap.size w w')
def slLen : Value → Nat
 | .slice _ n _ => n
 | _ => 0
def MrgS (w : World) (z : Option (List Nat)) (n0 : Nat) (va vb vo : Value) (wl : World) : Prop :=
 ∃ (A B l : List Nat) (a b : Option Addr) (ca cb : Nat),va = .slice a A.length ca /\ vb = .slice b B.length cb /\ A.length <= ca /\ B.length <= cb /\ LV w a A /\ LV w b B /\ A.length + B.length + l.length <= n0 /\ z = (mrg A B).map (l ++ ·) /\ wl.ownsRow w.heap.size 77 1 vo l.length (u32V l) /\ Below w.heap.size w wl
theorem LV.tail {w : World} {ad : Addr} {x : Nat} {l : List Nat} {c : Nat} (h : LV w (some ad) (x :: l)) (hc : (x :: l).length ≤ c) : LV w (if c = 1 then some ad else some (ad.add 1)) l := by
 have := h.cut (k := 1) hc (by simp)
 simpa using this
set_option maxRecDepth 100000 in
set_option maxHeartbeats 6400000 in
theorem dmerged_any (w : World) (a b : Option Addr) (A B : List Nat) (ca cb : Nat) (hca : A.length ≤ ca) (hcb : B.length ≤ cb) (hA : LV w a A) (hB : LV w b B) (hn : A.length + B.length ≤ 1000000) :
  Calls Tryz.prog 86 #[.slice a A.length ca,.slice b B.length cb] w (MrgP (mrg A B) w) := by
 obtain ⟨j0,hj,hj0,hj1,hj2⟩ := info_parts Tryz.infoU32
 obtain ⟨z,hz⟩ : ∃ z,mrg A B = z := ⟨_,rfl⟩
 have S0 : Hid (MrgS w z 1000000 (.slice a A.length ca) (.slice b B.length cb) (.slice none 0 0) w) := Lib.hid ⟨A,B,[],a,b,ca,cb,rfl,rfl,hca,hcb,hA,hB,by simp; omega,by rw [<- hz]; simp,World.ownsRow_nil _ _ _ _,Below.refl _ _⟩
 rw [hz]
 clear hA hB hn hz hca hcb
 go_enter Tryz.func86,Tryz.ntmps86
 go_wp2_with fail
 go_loopw [0,1,6] (fun v0 v1 v6 wl => MrgS w z 1000000 v0 v1 v6 wl) (fun v0 v1 _ _ => slLen v0 + slLen v1)
 case atStart => exact S0.out
 case round =>
  rename World => wl
  obtain ⟨A,B,l,a,b,ca,cb,rfl,rfl,hca,hcb,hA,hB,hn,hz,own,hbel⟩ := hrel
  have OWN := Lib.hid own
  have HBL := Lib.hid hbel
  have HZ := Lib.hid hz
  have HNN := Lib.hid hn
  have C3 : Hid (l.length + 1 <= maxLen) := Lib.hid (by simp only [maxLen]; omega)
  have C4 : Hid ((l.length + 1) * 4 <= 140737488355328) := Lib.hid (by omega)
  clear own hz
  cases A with
  | nil =>
   have HAV := Lib.hid hA
   cases B with
   | nil =>
    have EZ : Hid (z = some l) := Lib.hid (by rw [HZ.out,mrg_nil]; simp)
    go_wp2_with fail
    go_ret2
    exact ⟨fun l' e => (by rw [EZ.out] at e; cases e; exact ⟨u6,rfl,OWN.out,HBL.out⟩),fun e => (by rw [EZ.out] at e; cases e)⟩
   | cons y B' =>
    obtain ⟨gb,ob,eb,hgb,hqb,hxb⟩ := hB.2 0 (by simp)
    have cb1 : wl.cell? ⟨gb,ob,none⟩ = some (.int .u32 (y : Int)) := (hbel.cell hgb).trans hqb
    subst eb
    have LTb := Lib.hid (hB.tail hcb)
    rw [Addr.add_lit] at LTb
    obtain ⟨mb,hmb⟩ : ∃ m,B'.length = m := ⟨_,rfl⟩
    have HMb := Lib.hid hmb
    rw [List.length_cons,hmb] at hcb
    have jb1 : (0 : Int) < (mb : Int) + 1 := by omega
    have jb2 : ((mb : Int) + 1 == 0) = false := beq_eq_false_iff_ne.2 (by omega)
    have jb3 : (1 : Int) <= (mb : Int) + 1 := by omega
    have jb4 : (mb : Int) + 1 <= (cb : Int) := by omega
    have jb5 : (((B'.length + 1 : Nat)) : Int) = (mb : Int) + 1 := by omega
    have OA : Hid ((wl.drew.drew.alloc (.cells #[.int .u32 (y : Int)] 77)).ownsRow w.heap.size 77 1 u6 l.length (u32V l)) := Lib.hid ((OWN.out.drew.drew).alloc _)
    have KB : Hid (Below w.heap.size w (wl.drew.drew.alloc (.cells #[.int .u32 (y : Int)] 77))) := Lib.hid ((Below.drew (Below.drew (HBL.out))).alloc HBL.out.size _)
    go_upto_region 3 with fail
    go_big_region
    go_upto_region 6 with fail
    go_big_region

    go_wp2_with (at_builtin; refine wpList_append_at _ rfl _ _ 34 rfl w.heap.size 77 j0 _ 1 4 Tryz.underlying34 hj hj0 hj1 hj2 rfl (by decide) u6 l.length _ rfl OA.out _ 1 1 [.int .u32 (y : Int)] rfl rfl (cell_one_new _ _ _) (fun u hu => by simp at hu; subst hu; rfl) C3.out C4.out KB.out.size (by decide) ?_)
    intro v8 w8 own8 hg8 hw8
    have KB8 := Lib.hid (KB.out.grown hg8 KB.out.size (fun k hk => (OA.out.lt k hk).1))
    have OW8 : Hid (w8.ownsRow w.heap.size 77 1 v8 (l ++ [y]).length (u32V (l ++ [y]))) := Lib.hid (by rw [List.length_append,u32V_append]; exact own8)
    clear own8 hg8 hw8 OA KB
    go_wp2_with fail
    go_roundw
    case rel => exact ⟨[],B', l ++ [y],a,(if cb = 1 then some ⟨gb,ob,none⟩ else some ⟨gb,ob + 1,none⟩),ca,(cb - 1),rfl,by rw [HMb.out],Nat.zero_le _,by rw [HMb.out]; omega,HAV.out,LTb.out,by have h := HNN.out; simp only [List.length_cons,List.length_nil,List.length_append] at h ⊢; omega,by rw [HZ.out,mrg_nil', mrg_nil']; simp,OW8.out,KB8.out⟩
    case measure => simp [slLen]; try omega
  | cons x A' =>
   cases B with
   | nil =>
    have HBV := Lib.hid hB
    obtain ⟨ga,oa,ea,hga,hqa,hxa⟩ := hA.2 0 (by simp)
    have ca1 : wl.cell? ⟨ga,oa,none⟩ = some (.int .u32 (x : Int)) := (hbel.cell hga).trans hqa
    subst ea
    have LTa := Lib.hid (hA.tail hca)
    rw [Addr.add_lit] at LTa
    obtain ⟨ma,hma⟩ : ∃ m,A'.length = m := ⟨_,rfl⟩
    have HMa := Lib.hid hma
    rw [List.length_cons,hma] at hca
    have ja1 : (0 : Int) < (ma : Int) + 1 := by omega
    have ja2 : ((ma : Int) + 1 == 0) = false := beq_eq_false_iff_ne.2 (by omega)
    have ja3 : (1 : Int) <= (ma : Int) + 1 := by omega
    have ja4 : (ma : Int) + 1 <= (ca : Int) := by omega
    have ja5 : (((A'.length + 1 : Nat)) : Int) = (ma : Int) + 1 := by omega
    have OA : Hid ((wl.drew.alloc (.cells #[.int .u32 (x : Int)] 77)).ownsRow w.heap.size 77 1 u6 l.length (u32V l)) := Lib.hid ((OWN.out.drew).alloc _)
    have KB : Hid (Below w.heap.size w (wl.drew.alloc (.cells #[.int .u32 (x : Int)] 77))) := Lib.hid ((Below.drew (HBL.out)).alloc HBL.out.size _)
    go_upto_region 3 with fail
    go_big_region

    go_wp2_with (at_builtin; refine wpList_append_at _ rfl _ _ 34 rfl w.heap.size 77 j0 _ 1 4 Tryz.underlying34 hj hj0 hj1 hj2 rfl (by decide) u6 l.length _ rfl OA.out _ 1 1 [.int .u32 (x : Int)] rfl rfl (cell_one_new _ _ _) (fun u hu => by simp at hu; subst hu; rfl) C3.out C4.out KB.out.size (by decide) ?_)
    intro v8 w8 own8 hg8 hw8
    have KB8 := Lib.hid (KB.out.grown hg8 KB.out.size (fun k hk => (OA.out.lt k hk).1))
    have OW8 : Hid (w8.ownsRow w.heap.size 77 1 v8 (l ++ [x]).length (u32V (l ++ [x]))) := Lib.hid (by rw [List.length_append,u32V_append]; exact own8)
    clear own8 hg8 hw8 OA KB
    go_wp2_with fail
    go_roundw
    case rel => exact ⟨A', [],l ++ [x],(if ca = 1 then some ⟨ga,oa,none⟩ else some ⟨ga,oa + 1,none⟩),b,(ca - 1),cb,by rw [HMa.out],rfl,by rw [HMa.out]; omega,Nat.zero_le _,LTa.out,HBV.out,by have h := HNN.out; simp only [List.length_cons,List.length_nil,List.length_append] at h ⊢; omega,by rw [HZ.out,mrg_nil,mrg_nil]; simp,OW8.out,KB8.out⟩
    case measure => simp [slLen]; try omega
   | cons y B' =>
    obtain ⟨ga,oa,ea,hga,hqa,hxa⟩ := hA.2 0 (by simp)
    have ca1 : wl.cell? ⟨ga,oa,none⟩ = some (.int .u32 (x : Int)) := (hbel.cell hga).trans hqa
    subst ea
    have LTa := Lib.hid (hA.tail hca)
    rw [Addr.add_lit] at LTa
    obtain ⟨ma,hma⟩ : ∃ m,A'.length = m := ⟨_,rfl⟩
    have HMa := Lib.hid hma
    rw [List.length_cons,hma] at hca
    have ja1 : (0 : Int) < (ma : Int) + 1 := by omega
    have ja2 : ((ma : Int) + 1 == 0) = false := beq_eq_false_iff_ne.2 (by omega)
    have ja3 : (1 : Int) <= (ma : Int) + 1 := by omega
    have ja4 : (ma : Int) + 1 <= (ca : Int) := by omega
    have ja5 : (((A'.length + 1 : Nat)) : Int) = (ma : Int) + 1 := by omega
    obtain ⟨gb,ob,eb,hgb,hqb,hxb⟩ := hB.2 0 (by simp)
    have cb1 : wl.cell? ⟨gb,ob,none⟩ = some (.int .u32 (y : Int)) := (hbel.cell hgb).trans hqb
    subst eb
    have LTb := Lib.hid (hB.tail hcb)
    rw [Addr.add_lit] at LTb
    obtain ⟨mb,hmb⟩ : ∃ m,B'.length = m := ⟨_,rfl⟩
    have HMb := Lib.hid hmb
    rw [List.length_cons,hmb] at hcb
    have jb1 : (0 : Int) < (mb : Int) + 1 := by omega
    have jb2 : ((mb : Int) + 1 == 0) = false := beq_eq_false_iff_ne.2 (by omega)
    have jb3 : (1 : Int) <= (mb : Int) + 1 := by omega
    have jb4 : (mb : Int) + 1 <= (cb : Int) := by omega
    have jb5 : (((B'.length + 1 : Nat)) : Int) = (mb : Int) + 1 := by omega
    have HAV := Lib.hid hA
    have HBV := Lib.hid hB
    rcases Nat.lt_trichotomy x y with hxy | hxy | hxy
    ·have i1 : decide ((x : Int) < (y : Int)) = true := decide_eq_true (by omega)
     have i1n : decide (x < y) = true := decide_eq_true hxy
     have OA : Hid ((wl.drew.alloc (.cells #[.int .u32 (x : Int)] 77)).ownsRow w.heap.size 77 1 u6 l.length (u32V l)) := Lib.hid ((OWN.out.drew).alloc _)
     have KB : Hid (Below w.heap.size w (wl.drew.alloc (.cells #[.int .u32 (x : Int)] 77))) := Lib.hid ((Below.drew (HBL.out)).alloc HBL.out.size _)
     go_upto_region 3 with fail
     go_big_region

     go_wp2_with (at_builtin; refine wpList_append_at _ rfl _ _ 34 rfl w.heap.size 77 j0 _ 1 4 Tryz.underlying34 hj hj0 hj1 hj2 rfl (by decide) u6 l.length _ rfl OA.out _ 1 1 [.int .u32 (x : Int)] rfl rfl (cell_one_new _ _ _) (fun u hu => by simp at hu; subst hu; rfl) C3.out C4.out KB.out.size (by decide) ?_)
     intro v8 w8 own8 hg8 hw8
     have KB8 := Lib.hid (KB.out.grown hg8 KB.out.size (fun k hk => (OA.out.lt k hk).1))
     have OW8 : Hid (w8.ownsRow w.heap.size 77 1 v8 (l ++ [x]).length (u32V (l ++ [x]))) := Lib.hid (by rw [List.length_append,u32V_append]; exact own8)
     clear own8 hg8 hw8 OA KB
     go_wp2_with fail
     go_roundw
     case rel => exact ⟨A', (y :: B'),l ++ [x],(if ca = 1 then some ⟨ga,oa,none⟩ else some ⟨ga,oa + 1,none⟩),(some ⟨gb,ob,none⟩),(ca - 1),cb,by rw [HMa.out],by rw [List.length_cons,HMb.out],by rw [HMa.out]; omega,by rw [List.length_cons,HMb.out]; exact hcb,LTa.out,HBV.out,by have h := HNN.out; simp only [List.length_cons,List.length_nil,List.length_append] at h ⊢; omega,by rw [HZ.out,mrg_lt hxy,Option.map_map]; exact congrArg (fun f => Option.map f _) (funext fun t => by simp),OW8.out,KB8.out⟩
     case measure => simp [slLen]; try omega
    ·subst hxy
     have EZ : Hid (z = none) := Lib.hid (by rw [HZ.out,mrg_eq]; rfl)
     go_upto_region 3 with fail
     go_big_region
     go_upto_region 6 with fail
     go_big_region
     go_wp2_with fail
     go_ret2
     exact ⟨fun l' e => (by rw [EZ.out] at e; cases e),fun _ => ⟨rfl,Below.drew (Below.drew HBL.out)⟩⟩
    ·have i1 : decide ((x : Int) < (y : Int)) = false := decide_eq_false (by omega)
     have i1n : decide (x < y) = false := decide_eq_false (by omega)
     have i2 : ((x : Int) == (y : Int)) = false := beq_eq_false_iff_ne.2 (by omega)
     have OA : Hid ((wl.drew.drew.alloc (.cells #[.int .u32 (y : Int)] 77)).ownsRow w.heap.size 77 1 u6 l.length (u32V l)) := Lib.hid ((OWN.out.drew.drew).alloc _)
     have KB : Hid (Below w.heap.size w (wl.drew.drew.alloc (.cells #[.int .u32 (y : Int)] 77))) := Lib.hid ((Below.drew (Below.drew (HBL.out))).alloc HBL.out.size _)
     go_upto_region 3 with fail
     go_big_region
     go_upto_region 6 with fail
     go_big_region

     go_wp2_with (at_builtin; refine wpList_append_at _ rfl _ _ 34 rfl w.heap.size 77 j0 _ 1 4 Tryz.underlying34 hj hj0 hj1 hj2 rfl (by decide) u6 l.length _ rfl OA.out _ 1 1 [.int .u32 (y : Int)] rfl rfl (cell_one_new _ _ _) (fun u hu => by simp at hu; subst hu; rfl) C3.out C4.out KB.out.size (by decide) ?_)
     intro v8 w8 own8 hg8 hw8
     have KB8 := Lib.hid (KB.out.grown hg8 KB.out.size (fun k hk => (OA.out.lt k hk).1))
     have OW8 : Hid (w8.ownsRow w.heap.size 77 1 v8 (l ++ [y]).length (u32V (l ++ [y]))) := Lib.hid (by rw [List.length_append,u32V_append]; exact own8)
     clear own8 hg8 hw8 OA KB
     go_wp2_with fail
     go_roundw
     case rel => exact ⟨(x :: A'),B', l ++ [y],(some ⟨ga,oa,none⟩),(if cb = 1 then some ⟨gb,ob,none⟩ else some ⟨gb,ob + 1,none⟩),ca,(cb - 1),by rw [List.length_cons,HMa.out],by rw [HMb.out],by rw [List.length_cons,HMa.out]; exact hca,by rw [HMb.out]; omega,HAV.out,LTb.out,by have h := HNN.out; simp only [List.length_cons,List.length_nil,List.length_append] at h ⊢; omega,by rw [HZ.out,mrg_gt hxy,Option.map_map]; exact congrArg (fun f => Option.map f _) (funext fun t => by simp),OW8.out,KB8.out⟩
     case measure => simp [slLen]; try omega
theorem dcopies_any {w W : World} {wr : Option (Nat × Bits)} {rd : Option (Nat × ByteArray × Nat)} {rb : Nat} {aB : Option Addr} {dB : Nat} {B : Bits} {tb p : Nat} {K : List (Nat × Obj)} (h : DTk w wr rd rb aB dB B tb p false K W)
  (ar : Option Addr) (ref : List Nat) (cap : Nat) (hcap : ref.length <= cap) (hlen : ref.length <= 65536) (hb : ∀ v ∈ ref,v < 65536) (hA : Seen w K ar ref) :
  Calls Tryz.prog 84 #[.pointer (some ⟨tb,0,none⟩),.slice ar ref.length cap] W (ListD (CopP (copies B ref p) ref.length) w wr rd rb aB dB B tb K) := by
 cases ar with
 | some ad => exact dcopies_some h ad ref cap hcap hlen hb hA
 | none =>
  have h0 : ref = [] := by
   refine Classical.byContradiction fun hne => ?_
   have hp : 0 < ref.length := List.length_pos_iff.2 hne
   obtain ⟨g,o,e,_⟩ := (hA W h.below (fun q hq => h.has hq)).2 0 hp
   cases e
  subst h0
  exact dcopies_none h cap
theorem lng0_yes {B : Bits} {x deg itv a : Nat} {c : List Nat} (h : c.length < deg) (hi : 0 < itv) : lng0 B x deg itv c a = longs B x (deg - c.length) itv a := if_pos ⟨h, hi⟩
theorem lng0_no {B : Bits} {x deg itv a : Nat} {c : List Nat} (h : ¬ (c.length < deg ∧ 0 < itv)) : lng0 B x deg itv c a = some ([], a) := if_neg h
theorem DTR.bare {w W : World} {wr : Option (Nat × Bits)} {rd : Option (Nat × ByteArray × Nat)} {rb : Nat} {aB : Option Addr} {dB : Nat} {B : Bits} {tb p : Nat} {bad : Bool} {rs : List Rw} {K : List (Nat × Obj)} (h : DTR w wr rd rb aB dB B tb p bad rs K W) : DTR w wr rd rb aB dB B tb p bad [] K W := ⟨h.1.fs, h.2⟩
theorem DTR.drewN {w W : World} {wr : Option (Nat × Bits)} {rd : Option (Nat × ByteArray × Nat)} {rb : Nat} {aB : Option Addr} {dB : Nat} {B : Bits} {tb p : Nat} {bad : Bool} {rs : List Rw} {K : List (Nat × Obj)} (h : DTR w wr rd rb aB dB B tb p bad rs K W) (n : Nat) : DTR w wr rd rb aB dB B tb p bad rs K (W.drewN n) := h.next ⟨rfl, rfl, rfl, Nat.le_refl _, fun _ _ => rfl⟩
theorem DTR.add {w W : World} {wr : Option (Nat × Bits)} {rd : Option (Nat × ByteArray × Nat)} {rb : Nat} {aB : Option Addr} {dB : Nat} {B : Bits} {tb p : Nat} {bad : Bool} {K : List (Nat × Obj)} (h : DTR w wr rd rb aB dB B tb p bad [] K W) (row : Array Value) (T : TypeId) : DTR w wr rd rb aB dB B tb p bad [] ((W.heap.size, .cells row T (0, 0)) :: K) (W.alloc (.cells row T)) := (h.lone.add row T).rows
def CpS (w : World) (wr : Option (Nat × Bits)) (rd : Option (Nat × ByteArray × Nat)) (rb : Nat) (aB : Option Addr) (dB : Nat) (B : Bits) (tb : Nat) (K : List (Nat × Obj)) (F : Option (List Nat × Nat)) (m : Nat) (v13 : Value) (wc : World) : Prop :=
 ∃ (l : List Nat) (p' : Nat) (bad : Bool),CopP F m l p' bad /\ DTR w wr rd rb aB dB B tb p' bad [⟨77,v13,u32V l⟩] K wc
def MgS (w : World) (wr : Option (Nat × Bits)) (rd : Option (Nat × ByteArray × Nat)) (rb : Nat) (aB : Option Addr) (dB : Nat) (B : Bits) (tb : Nat) (K : List (Nat × Obj)) (Z : Option (List Nat × Nat)) (x zet deg : Nat) (v13 v14 : Value) (wc : World) : Prop :=
 ∃ (o : List Nat) (m p' : Nat) (ks : List (Nat × Obj)) (s : Option Addr) (d : Nat),v13 = .slice s o.length d /\ v14 = .int .i64 (m : Int) /\ o.length <= d /\ o.length + m = deg /\ (∀ v ∈ o,v < 65536) /\ Stands ks s o /\ Z = ((rsd B x zet m none p').bind fun q => (mrg o q.1).map fun s => (s,q.2)) /\ DTR w wr rd rb aB dB B tb p' false [] (ks ++ K) wc
def RsS (w : World) (wr : Option (Nat × Bits)) (rd : Option (Nat × ByteArray × Nat)) (rb : Nat) (aB : Option Addr) (dB : Nat) (B : Bits) (tb : Nat) (K : List (Nat × Obj)) (F : Option (List Nat × Nat)) (x zet m : Nat) (vo ve vi : Value) (wl : World) : Prop :=
 ∃ (i : Nat) (en : Option Nat) (l : List Nat) (p' : Nat),ve = .int .i64 (endD en) /\ vi = .int .i64 (i : Int) /\ RsdL F B x zet m i en l p' /\ DTR w wr rd rb aB dB B tb p' false [⟨77,vo,u32V l⟩] K wl
set_option maxRecDepth 100000 in
set_option maxHeartbeats 6400000 in
theorem ddec0_any {w W : World} {wr : Option (Nat × Bits)} {rd : Option (Nat × ByteArray × Nat)} {rb : Nat} {aB : Option Addr} {dB : Nat} {B : Bits} {p : Nat} {K : List (Nat × Obj)} (h : DRd w wr rd rb aB dB B p K W)
  (x deg r : Nat) (pr : Pr) (hx : x < 65536) (hd : deg <= 65536) (hr : r <= 16) (hp : pr.ok) (ar : Option Addr) (ref : List Nat) (cap : Nat) (hcap : ref.length <= cap) (hris : Ris ref) (hA : Seen w K ar ref) :
  Calls Tryz.prog 54 #[.pointer (some ⟨rb,0,none⟩),.int .i64 (x : Int),.agg #[.int .i64 (deg : Int),.int .i64 (r : Int)],.slice ar ref.length cap,parV (pr.win : Int) (pr.itv : Int) (pr.zet : Int)] W (DocP (dOut (pars B x deg ref r pr p)) deg w wr rd rb aB dB B K) := by
 obtain ⟨j0,hj,hj0,hj1,hj2⟩ := info_parts Tryz.infoU32
 have HB6 := Lib.hid h.2.2.1
 have hlen := hris.len
 obtain ⟨win,itv,zet⟩ := pr
 obtain ⟨hp1,hp2,hp3⟩ := hp
 dsimp only at hp1 hp2 hp3 ⊢
 have h9 := DTk.start ((h.add #[.int .i64 (deg : Int),.int .i64 (r : Int)] 33).add #[.int .i64 (win : Int),.int .i64 (itv : Int),.int .i64 (zet : Int)] 36)
 have z1 : (W.alloc (.cells #[.int .i64 (deg : Int),.int .i64 (r : Int)] 33)).heap.size = W.heap.size + 1 := by simp
 have z2 : ((W.alloc (.cells #[.int .i64 (deg : Int),.int .i64 (r : Int)] 33)).alloc (.cells #[.int .i64 (win : Int),.int .i64 (itv : Int),.int .i64 (zet : Int)] 36)).heap.size = W.heap.size + 2 := by simp
 rw [z1,z2] at h9
 clear z1 z2
 obtain ⟨hb,hhb⟩ : ∃ z,W.heap.size = z := ⟨_,rfl⟩
 rw [hhb] at h9
 obtain ⟨K2,hK2⟩ : ∃ K', (hb + 1,Obj.cells #[.int .i64 (win : Int),.int .i64 (itv : Int),.int .i64 (zet : Int)] 36 (0,0)) :: (hb,Obj.cells #[.int .i64 (deg : Int),.int .i64 (r : Int)] 33 (0,0)) :: K = K' := ⟨_,rfl⟩
 rw [hK2] at h9
 have H0 := Lib.hid h9
 have HK : Hid (∀ q ∈ K,q ∈ K2) := Lib.hid (fun q hq => by rw [<- hK2]; exact List.mem_cons_of_mem _ (List.mem_cons_of_mem _ hq))
 have CC : Hid (∀ W' tb p' bad rs K', (∀ q ∈ K2,q ∈ K') -> DTR w wr rd rb aB dB B tb p' bad rs K' W' -> W'.cell? ⟨hb,0,none⟩ = some (.int .i64 (deg : Int)) /\ W'.cell? ⟨hb,1,none⟩ = some (.int .i64 (r : Int)) /\ W'.cell? ⟨hb + 1,0,none⟩ = some (.int .i64 (win : Int)) /\ W'.cell? ⟨hb + 1,1,none⟩ = some (.int .i64 (itv : Int)) /\ W'.cell? ⟨hb + 1,2,none⟩ = some (.int .i64 (zet : Int))) := Lib.hid (fun W' tb p' bad rs K' hk h => by
  have r : W'.heap[hb]? = some (.cells #[.int .i64 (deg : Int),.int .i64 (r : Int)] 33 (0,0)) := h.has (q := (hb,_)) (hk _ (by rw [<- hK2]; exact List.mem_cons_of_mem _ (List.mem_cons_self ..)))
  have r2 : W'.heap[hb + 1]? = some (.cells #[.int .i64 (win : Int),.int .i64 (itv : Int),.int .i64 (zet : Int)] 36 (0,0)) := h.has (q := (hb + 1,_)) (hk _ (by rw [<- hK2]; exact List.mem_cons_self ..))
  exact ⟨by rw [cell_of_row _ _ _ _ _ _ r]; rfl,by rw [cell_of_row _ _ _ _ _ _ r]; rfl,by rw [cell_of_row _ _ _ _ _ _ r2]; rfl,by rw [cell_of_row _ _ _ _ _ _ r2]; rfl,by rw [cell_of_row _ _ _ _ _ _ r2]; rfl⟩)
 have OUT : Hid (∀ W' tb p' bad rs K', (∀ q ∈ K2,q ∈ K') -> DTR w wr rd rb aB dB B tb p' bad rs K' W' -> DRR w wr rd rb aB dB B p' rs K W') := Lib.hid (fun W' tb p' bad rs K' hk h => h.drop.less (fun q hq => hk _ (HK.out _ hq)) HB6.out)
 obtain ⟨Z,hZ⟩ : ∃ Z,dOut (pars B x deg ref r ⟨win,itv,zet⟩ p) = Z := ⟨_,rfl⟩
 have NOX : Hid (Z = none -> ∀ W' tb p' bad K', (∀ q ∈ K2,q ∈ K') -> DTR w wr rd rb aB dB B tb p' bad [] K' W' -> DocP Z deg w wr rd rb aB dB B K (.returned (.tuple #[.slice none 0 0,.bool false])) W') := Lib.hid (fun hz W' tb p' bad K' hk h => ⟨_,[],p', false,rfl,fun h => (by cases h),fun _ => hz,Nat.zero_le _,fun v hv => (by cases hv),OUT.out _ _ _ _ _ _ hk (h.lift (T := 77))⟩)
 have ZE := Lib.hid (fun c l p1 p2 (h1 : cop0 B ref r p = some (c,p1)) (h2 : ¬ deg < c.length) (h3 : lng0 B x deg itv c p1 = some (l,p2)) => (dOut_eq (p := ⟨win,itv,zet⟩) hris.1 h1 h2 h3).symm.trans hZ)
 have Z1 := Lib.hid (fun (h1 : cop0 B ref r p = none) => hZ.symm.trans (dOut_none1 (x := x) (deg := deg) (p := ⟨win,itv,zet⟩) h1))
 have Z2 := Lib.hid (fun c p1 (h1 : cop0 B ref r p = some (c,p1)) (h2 : deg < c.length) => hZ.symm.trans (dOut_none2 (x := x) (p := ⟨win,itv,zet⟩) h1 h2))
 have Z3 := Lib.hid (fun c p1 (h1 : cop0 B ref r p = some (c,p1)) (h2 : ¬ deg < c.length) (h3 : lng0 B x deg itv c p1 = none) => hZ.symm.trans (dOut_none3 (p := ⟨win,itv,zet⟩) h1 h2 h3))
 have CP := Lib.hid (fun W' tb p' (h : DTk w wr rd rb aB dB B tb p' false K2 W') => dcopies_any h ar ref cap hcap hlen hris.2 (hA.more HK.out))
 obtain ⟨n,hn⟩ : ∃ z,ref.length = z := ⟨_,rfl⟩
 rw [hn] at hlen hcap CP ⊢
 rw [hZ]
 unfold parV
 obtain ⟨C0,hC0⟩ : ∃ C,cop0 B ref r p = C := ⟨_,rfl⟩
 rw [hC0] at ZE Z1 Z2 Z3
 have HC0 : Hid (C0 = if 0 < r then copies B ref p else some ([],p)) := Lib.hid hC0.symm
 clear h h9 hZ hK2 hA hris hn hC0
 go_enter Tryz.func54,Tryz.ntmps54
 go_upto_region 3 with fail
 obtain ⟨tb,htb⟩ : ∃ t,hb + 1 + 1 = t := ⟨_,rfl⟩
 rw [show hb + 2 = tb from htb] at H0
 rw [htb]
 generalize World.alloc (World.alloc (World.alloc W _) _) _ = W0 at H0 ⊢
 obtain ⟨c0,c1,c2,c3,c4⟩ := CC.out _ _ _ _ _ _ (fun q hq => hq) H0.out.rows
 clear htb
 go_upto_if 30 with fail
 go_cut [13] from 30 to 34 (fun v13 wc => CpS w wr rd rb aB dB B tb K2 C0 n v13 wc)
 case first =>
  by_cases hr0 : 0 < r
  ·have i1 : decide ((0 : Int) < (r : Int)) = true := decide_eq_true (by omega)
   have E := Lib.hid (HC0.out.trans (if_pos hr0))
   have T1 := Lib.hid (CP.out _ _ _ H0.out)
   go_wp2_with fail
   with_reducible refine T1.out.mono ?_
   rintro e w1 ⟨v,l,p1,bad,rfl,hc,h1⟩
   have R : Hid (CpS w wr rd rb aB dB B tb K2 C0 n v w1) := Lib.hid ⟨l,p1,bad,by rw [E.out]; exact hc,h1⟩
   clear hc h1
   go_wp2_with fail
   go_meet
   case rel => exact R.out
  ·have i1 : decide ((0 : Int) < (r : Int)) = false := decide_eq_false (by omega)
   have E := Lib.hid (HC0.out.trans (if_neg hr0))
   go_wp2_with fail
   go_meet
   case rel => exact ⟨[],p,false,⟨Nat.zero_le _,fun v hv => (by cases hv),fun h => (by cases h),fun _ => E.out⟩,H0.out.rows.lift⟩
 case rest =>
  rename World => wc
  obtain ⟨c,p1,bad1,hc,h1⟩ := hcut
  obtain ⟨k1,k2,k3,k4⟩ := hc
  obtain ⟨ka,sc,dc,rfl,hcd,hst,h2⟩ := h1.still (by omega) (fun v hv => Nat.lt_trans (k2 v hv) (by decide))
  have ST := Lib.hid hst
  have CB := Lib.hid k2
  have D2 := Lib.hid h2
  have BN := Lib.hid k3
  have BS := Lib.hid k4
  clear h1 hst k2 k3 k4 c0 c1 c2 c3 c4 H0
  obtain ⟨c0,c1,c2,c3,c4⟩ := CC.out _ _ _ _ _ _ (fun q hq => List.mem_append_right _ hq) h2
  obtain ⟨t0,t1,-⟩ := h2.cells
  obtain ⟨lc,hlc⟩ : ∃ z,c.length = z := ⟨_,rfl⟩
  have HLC := Lib.hid hlc
  rw [hlc] at k1 hcd ⊢
  have q1 : IntKind.i64.wrap ((deg : Int) - (lc : Int)) = (deg : Int) - (lc : Int) := IntWalk.i64_in _ (by omega)
  clear h2 hlc
  cases bad1 with
  | true =>
   have FN := Lib.hid (NOX.out (Z1.out (BN.out rfl)) _ _ _ _ _ (fun q hq => List.mem_append_right _ hq) D2.out)
   go_wp2_with fail
   go_ret2
   exact FN.out
  | false =>
   have HC := Lib.hid (BS.out rfl)
   by_cases hlt : deg < lc
   ·have i1 : decide ((deg : Int) - (lc : Int) < 0) = true := decide_eq_true (by omega)
    have FN := Lib.hid (NOX.out (Z2.out _ _ HC.out (by rw [HLC.out]; exact hlt)) _ _ _ _ _ (fun q hq => List.mem_append_right _ hq) D2.out)
    go_wp2_with fail
    go_ret2
    exact FN.out
   ·have ND : Hid (¬ deg < c.length) := Lib.hid (by rw [HLC.out]; exact hlt)
    obtain ⟨m,hm⟩ : ∃ m,deg = lc + m := ⟨deg - lc,by omega⟩
    have q2 : (deg : Int) - (lc : Int) = (m : Int) := by omega
    have i1 : decide ((m : Int) < 0) = false := decide_eq_false (by omega)
    have HM : Hid (deg - c.length = m /\ deg = lc + m) := Lib.hid ⟨by rw [HLC.out]; omega,hm⟩
    have hm9 : m <= 65536 := by omega
    rw [q2] at q1
    clear hm hlt
    go_upto_region 8 with fail
    go_cut [53] from 47 to 54 (fun v53 wd => v53 = .bool (decide (0 < m /\ 0 < itv)) /\ wd = wc)
    case first =>
     by_cases hm0 : 0 < m
     ·have j1 : decide ((0 : Int) < (m : Int)) = true := decide_eq_true (by omega)
      by_cases hi0 : 0 < itv
      ·have j2 : decide ((0 : Int) < (itv : Int)) = true := decide_eq_true (by omega)
       have R : Hid (decide (0 < m /\ 0 < itv) = true) := Lib.hid (decide_eq_true ⟨hm0,hi0⟩)
       go_wp2_with fail
       go_meet
       case rel => exact ⟨by rw [R.out],rfl⟩
      ·have j2 : decide ((0 : Int) < (itv : Int)) = false := decide_eq_false (by omega)
       have R : Hid (decide (0 < m /\ 0 < itv) = false) := Lib.hid (decide_eq_false (fun h => hi0 h.2))
       go_wp2_with fail
       go_meet
       case rel => exact ⟨by rw [R.out],rfl⟩
     ·have j1 : decide ((0 : Int) < (m : Int)) = false := decide_eq_false (by omega)
      have R : Hid (decide (0 < m /\ 0 < itv) = false) := Lib.hid (decide_eq_false (fun h => hm0 h.1))
      go_wp2_with fail
      go_meet
      case rel => exact ⟨by rw [R.out],rfl⟩
    case rest =>
    obtain ⟨rfl,rfl⟩ := hcut
    obtain ⟨bb,hbb⟩ : ∃ b,decide (0 < m /\ 0 < itv) = b := ⟨_,rfl⟩
    have HBB := Lib.hid hbb
    rw [hbb]
    clear hbb
    go_upto_if 53 with fail
    go_cut [13,14,15,16,17] from 54 to 78 (fun v13 v14 _ _ _ wd => MgS w wr rd rb aB dB B tb K2 Z x zet deg v13 v14 wd)
    case first =>
     cases bb with
     | true =>
       obtain ⟨hm0,hi0⟩ : 0 < m /\ 0 < itv := of_decide_eq_true HBB.out
       have LG : Hid (lng0 B x deg itv c p1 = longs B x m itv p1) := Lib.hid (by
        rw [<- HM.out.1]
        exact lng0_yes (by rw [HLC.out]; have := HM.out.2; omega) hi0)
       have T1 := Lib.hid (drows_any D2.out.lone x m win itv zet hx hm9 hi0 (by omega))
       go_wp2_with fail
       with_reducible refine T1.out.mono ?_
       rintro e w1 ⟨v,l,p2,bad2,rfl,hl,h3⟩
       obtain ⟨k1,k2,k3,k4⟩ := hl
       obtain ⟨kb,sl,dl,rfl,hld,hsl,h4⟩ := h3.still (by omega) (fun v hv => Nat.lt_trans (k2 v hv) (by decide))
       have D4 := Lib.hid h4
       have LN := Lib.hid k3
       have LS := Lib.hid k4
       have LVB := Lib.hid k2
       have LVc := Lib.hid (ST.out w1 (fun q hq => h4.has (List.mem_append_right _ (List.mem_append_left _ hq))))
       have LVl := Lib.hid (hsl w1 (fun q hq => h4.has (List.mem_append_left _ hq)))
       have MG := Lib.hid (dmerged_any w1 sc sl c l dc dl (by rw [HLC.out]; exact hcd) hld LVc.out LVl.out (by rw [HLC.out]; omega))
       obtain ⟨t0,t1,-⟩ := h4.cells
       obtain ⟨ll,hll⟩ : ∃ z,l.length = z := ⟨_,rfl⟩
       have HLL := Lib.hid hll
       rw [HLC.out] at MG
       rw [hll] at MG k1 ⊢
       have q3 : IntKind.i64.wrap ((m : Int) - (ll : Int)) = ((m - ll : Nat) : Int) := by rw [IntWalk.i64_in _ (by omega)]; omega
       clear h3 hsl h4 k2 k3 k4 T1 hll hld D2
       go_wp2_with fail
       with_reducible refine MG.out.mono ?_
       rintro e w2 hM
       cases hmg : mrg c l with
       | none =>
        obtain ⟨rfl,k9⟩ := hM.2 hmg
        have D5 := Lib.hid (D4.out.next k9)
        obtain ⟨t0,t1,-⟩ := D5.out.cells
        have ZN : Hid (Z = none) := Lib.hid (by
         cases bad2 with
         | true => exact Z3.out _ _ HC.out ND.out (LG.out.trans (LN.out rfl))
         | false =>
          rw [<- ZE.out _ _ _ _ HC.out ND.out (LG.out.trans (LS.out rfl)),hmg]
          cases rsd B x zet (deg - c.length - l.length) none p2 <;> rfl)
        have FN := Lib.hid (NOX.out ZN.out _ _ _ _ _ (fun q hq => List.mem_append_right _ (List.mem_append_right _ hq)) D5.out)
        clear hmg k9 hM MG
        cases bad2
        ·go_wp2_with fail
         go_ret2
         exact FN.out
        ·go_wp2_with fail
         go_ret2
         exact FN.out
       | some o =>
        obtain ⟨v,rfl,own,k9⟩ := hM.1 o hmg
        have hD5 := D4.out.fresh k9 own
        have pm := mrg_mem _ _ _ _ (Nat.le_refl _) hmg
        have hob : ∀ v ∈ o,v < 65536 := fun v hv => by
         rcases List.mem_append.1 (pm.mem_iff.1 hv) with h | h
         ·exact CB.out v h
         ·exact LVB.out v h
        have hol : o.length = lc + ll := by rw [pm.length_eq,List.length_append,HLC.out,HLL.out]
        obtain ⟨ko,so,dd,rfl,hod,hso,h6⟩ := hD5.still (by omega) (fun v hv => Nat.lt_trans (hob v hv) (by decide))
        have D6 := Lib.hid h6
        obtain ⟨t0,t1,-⟩ := h6.cells
        cases bad2 with
        | true =>
         have FN := Lib.hid (NOX.out (Z3.out _ _ HC.out ND.out (LG.out.trans (LN.out rfl))) _ _ _ _ _ (fun q hq => List.mem_append_right _ (List.mem_append_right _ (List.mem_append_right _ hq))) D6.out)
         clear hmg hM MG own k9 hD5 h6 pm
         go_wp2_with fail
         go_ret2
         exact FN.out
        | false =>
         have R : Hid (MgS w wr rd rb aB dB B tb K2 Z x zet deg (.slice so (lc + ll) dd) (.int .i64 ((m - ll : Nat) : Int)) w2) := Lib.hid ⟨o,m - ll,p2,ko ++ (kb ++ ka),so,dd,by rw [hol],rfl,hod,by have := HM.out.2; omega,hob,hso.more (fun q hq => List.mem_append_left _ hq),by
          rw [<- ZE.out _ _ _ _ HC.out ND.out (LG.out.trans (LS.out rfl)),hmg,HM.out.1,HLL.out]
          rfl,by
          rw [List.append_assoc,List.append_assoc]
          exact h6⟩
         clear hmg hM MG own k9 hD5 h6 pm
         go_wp2_with fail
         go_meet
         case rel => exact R.out
     | false =>
       have LG : Hid (lng0 B x deg itv c p1 = some ([],p1)) := Lib.hid (lng0_no (fun h => by have h1 := of_decide_eq_false HBB.out; have h2 := HM.out.1; exact h1 ⟨by omega,h.2⟩))
       have ZZ : Hid (Z = ((rsd B x zet m none p1).bind fun q => (mrg c q.1).map fun s => (s,q.2))) := Lib.hid (by
        rw [<- ZE.out _ _ _ _ HC.out ND.out LG.out,HM.out.1,mrg_nil]
        rfl)
       go_wp2_with fail
       go_meet
       case rel => exact ⟨c,m,p1,ka,sc,dc,by rw [HLC.out],rfl,by rw [HLC.out]; exact hcd,by rw [HLC.out]; have := HM.out.2; omega,CB.out,ST.out,ZZ.out,D2.out⟩
    case rest =>
     rename World => wd
     obtain ⟨o,m,p2,ks,so,dd,rfl,rfl,hod,hom,hob,hso,hZ,hD⟩ := hcut
     have HO := Lib.hid hob
     have HSO := Lib.hid hso
     have HZZ := Lib.hid hZ
     have h7 := hD.add #[.int .u8 3,.int .u64 (zet : Int)] 104
     obtain ⟨cb,hcb⟩ : ∃ z,wd.heap.size = z := ⟨_,rfl⟩
     rw [hcb] at h7
     obtain ⟨K4,hK4⟩ : ∃ K', (cb,Obj.cells #[.int .u8 3,.int .u64 (zet : Int)] 104 (0,0)) :: (ks ++ K2) = K' := ⟨_,rfl⟩
     rw [hK4] at h7
     have D7 := Lib.hid h7
     have HK4 : Hid (∀ q ∈ K2,q ∈ K4) := Lib.hid (fun q hq => by rw [<- hK4]; exact List.mem_cons_of_mem _ (List.mem_append_right _ hq))
     have HKs : Hid (∀ q ∈ ks,q ∈ K4) := Lib.hid (fun q hq => by rw [<- hK4]; exact List.mem_cons_of_mem _ (List.mem_append_left _ hq))
     have CD : Hid (∀ W' p' bad rs,DTR w wr rd rb aB dB B tb p' bad rs K4 W' -> W'.cell? ⟨cb,0,none⟩ = some (.int .u8 3) /\ W'.cell? ⟨cb,1,none⟩ = some (.int .u64 (zet : Int))) := Lib.hid (fun W' p' bad rs h => by
      have r : W'.heap[cb]? = some (.cells #[.int .u8 3,.int .u64 (zet : Int)] 104 (0,0)) := h.has (q := (cb,_)) (by rw [<- hK4]; exact List.mem_cons_self ..)
      exact ⟨by rw [cell_of_row _ _ _ _ _ _ r]; rfl,by rw [cell_of_row _ _ _ _ _ _ r]; rfl⟩)
     have TT : Hid (∀ W' p' bad rs (_ : DTR w wr rd rb aB dB B tb p' bad rs K4 W'),Calls Tryz.prog 87 #[.pointer (some ⟨tb,0,none⟩),cdV (.zet zet),.int .i64 262144] W' (DTakeR w wr rd rb aB dB B tb rs K4 (tk B (.zet zet) 262144 p') 262144 bad)) := Lib.hid (fun W' p' bad rs h => h.take (.zet zet) hp3 262144 (by decide))
     unfold cdV at TT
     obtain ⟨c0,c1,c2,c3,c4⟩ := CC.out _ _ _ _ _ _ (fun q hq => List.mem_append_right _ hq) hD
     obtain ⟨F,hF⟩ : ∃ F,rsd B x zet m none p2 = F := ⟨_,rfl⟩
     have S0 : Hid (RsdL F B x zet m 0 none [] p2) := Lib.hid (hF ▸ RsdL.start B x zet m p2)
     have ZF : Hid (Z = (F.bind fun q => (mrg o q.1).map fun s => (s,q.2))) := Lib.hid (by rw [<- hF]; exact HZZ.out)
     obtain ⟨lo,hlo⟩ : ∃ z,o.length = z := ⟨_,rfl⟩
     have HLO := Lib.hid hlo
     have HOM := Lib.hid hom
     rw [hlo] at hod hom ⊢
     have wz : IntKind.u64.wrap (zet : Int) = (zet : Int) := IntWalk.u64_in _ (by omega)
     have hm9 : m <= 65536 := by omega
     clear hob hso hZ hD h7 hK4 hF hlo HZZ hom
     go_upto_region 16 with fail
     generalize World.alloc wd _ = w5 at D7 ⊢
     clear c0 c1 c2 c3 c4
     go_wp2_with fail
     go_loopw [19,20,21] (fun v19 v20 v21 wl => RsS w wr rd rb aB dB B tb K4 F x zet m v19 v20 v21 wl) (fun _ _ v21 _ => m - (intOf v21).toNat)
     case atStart => exact ⟨0,none,[],p2,rfl,rfl,S0.out,D7.out.lift⟩
     case round =>
      rename World => wl
      obtain ⟨i,en,l,p', rfl,rfl,hC,hD⟩ := hrel
      have CL := Lib.hid hC
      have D := Lib.hid hD
      obtain ⟨t0,t1,-⟩ := hD.cells
      obtain ⟨g0,g1⟩ := CD.out _ _ _ _ hD
      have hi : i <= m := hC.1
      have hee := hC.2.2.2.1
      have hie := hC.2.2.2.2.1
      clear hC hD D7
      by_cases hlt : i < m
      ·have i1 : decide ((i : Int) < (m : Int)) = true := decide_eq_true (by omega)
       have T2 := Lib.hid (TT.out _ _ _ _ D.out)
       go_wp2_with fail
       with_reducible refine T2.out.mono ?_
       rintro e w2 ⟨v,p3,bad2,rfl,ht,h2⟩
       have hv9 : v <= 262144 := ht.2.2
       have HT1 := Lib.hid ht
       have D2 := Lib.hid h2
       clear ht h2 T2 t0 t1 g0 g1
       go_upto_if 98 with fail
       go_cut [22] from 98 to 107 (fun v22 wc => v22 = .int .i64 (resAt x en v) /\ DTR w wr rd rb aB dB B tb p3 (bad2 || zagBad x en v) [⟨77,u19,u32V l⟩] K4 wc)
       case first =>
        cases en with
        | none =>
         have hi0 : i = 0 := hie.2 rfl
         have i0 : ((i : Int) == 0) = true := by rw [hi0]; rfl
         have ZG := Lib.hid (D2.out.zag v x (by omega) hx)
         clear hi0 hie
         go_wp2_with fail
         with_reducible refine ZG.out.mono ?_
         rintro e w3 ⟨rfl,h3⟩
         have D3 := Lib.hid h3
         clear h3 ZG
         go_wp2_with fail
         go_meet
         case rel => exact ⟨rfl,D3.out⟩
        | some e' =>
         have hi0 : i ≠ 0 := fun h => by have := hie.1 h; cases this
         have i0 : ((i : Int) == 0) = false := beq_eq_false_iff_ne.2 (by omega)
         have he9 := hee e' rfl
         have q1 : IntKind.i64.wrap ((v : Int) + endD (some e')) = (v : Int) + (e' : Int) := IntWalk.i64_in _ (by show _ <= (v : Int) + (e' : Int) /\ (v : Int) + (e' : Int) <= _; omega)
         have q2 : IntKind.i64.wrap ((v : Int) + (e' : Int) + 1) = resAt x (some e') v := by
          rw [IntWalk.i64_in _ (by omega)]
          show _ = (v : Int) + ((e' : Int) + 1)
          omega
         have D3 : Hid (DTR w wr rd rb aB dB B tb p3 (bad2 || zagBad x (some e') v) [⟨77,u19,u32V l⟩] K4 w2) := Lib.hid (by
          rw [show zagBad x (some e') v = false from rfl,Bool.or_false]
          exact D2.out)
         clear hie
         go_wp2_with fail
         go_meet
         case rel => exact ⟨rfl,D3.out⟩
       case rest =>
        rename World => w4
        obtain ⟨rfl,hD3⟩ := hcut
        have hrb := resAt_bound (x := x) hx hee hv9
        have D3 := Lib.hid hD3
        obtain ⟨t0,t1,-⟩ := hD3.cells
        clear hD3 D2 hee hie
        obtain ⟨fr,hfr⟩ : ∃ f,resAt x en v = f := ⟨_,rfl⟩
        have HFR := Lib.hid hfr
        rw [hfr] at hrb ⊢
        clear hfr
        obtain ⟨bd,hbd⟩ : ∃ b,(bad2 || zagBad x en v) = b := ⟨_,rfl⟩
        have HBD := Lib.hid hbd
        rw [hbd] at D3 t1
        clear hbd
        have FNX : Hid (F = none -> DocP Z deg w wr rd rb aB dB B K (.returned (.tuple #[.slice none 0 0,.bool false])) w4) := Lib.hid (fun h => NOX.out (by rw [ZF.out,h]; rfl) _ _ _ _ _ HK4.out (DTR.bare D3.out))
        cases bd with
        | true =>
         have FN := Lib.hid (FNX.out (CL.out.no hlt HT1.out (.inl HBD.out)))
         go_wp2_with fail
         go_ret2
         exact FN.out
        | false =>
         by_cases hf : 65536 <= fr
         ·have o1 : decide ((65536 : Int) <= fr) = true := decide_eq_true hf
          have FN := Lib.hid (FNX.out (CL.out.no hlt HT1.out (.inr (by rw [HFR.out]; exact hf))))
          go_wp2_with fail
          go_ret2
          exact FN.out
         ·have o1 : decide ((65536 : Int) <= fr) = false := decide_eq_false hf
          obtain ⟨h0f,hst⟩ := CL.out.step hlt HT1.out HBD.out (by rw [HFR.out]; omega)
          rw [HFR.out] at h0f hst
          obtain ⟨f,hff⟩ : ∃ f : Nat,fr = (f : Int) := ⟨fr.toNat,by omega⟩
          subst hff
          rw [Int.toNat_natCast] at hst
          have ST2 := Lib.hid hst
          have hl1 : l.length = i := CL.out.2.1
          have HL1 := Lib.hid hl1
          have r2 : IntKind.u32.wrap (f : Int) = (f : Int) := by rw [IntKind.wrap_u32]; omega
          have own5 := (DTR.next D3.out ((Below.refl _ _).alloc (Nat.le_refl w4.heap.size) (.cells #[.int .u32 (f : Int)] 77))).own
          unfold Rw.owned at own5
          dsimp only at own5
          rw [u32V_length,hl1] at own5
          have OA := Lib.hid own5
          have C3 : Hid (i + 1 <= maxLen) := Lib.hid (by simp only [maxLen]; omega)
          have C4 : Hid ((i + 1) * 4 <= 140737488355328) := Lib.hid (by omega)
          have DA := Lib.hid (DTR.next D3.out ((Below.refl _ _).alloc (Nat.le_refl w4.heap.size) (.cells #[.int .u32 (f : Int)] 77)))
          clear hst own5 hl1
          go_wp2_with (at_builtin; refine wpList_append_at _ rfl _ _ 34 rfl 0 77 j0 _ 1 4 Tryz.underlying34 hj hj0 hj1 hj2 rfl (by decide) _ i _ rfl OA.out _ 1 1 [.int .u32 (f : Int)] rfl rfl (cell_one_new _ _ _) (fun u hu => by simp at hu; subst hu; rfl) C3.out C4.out (Nat.zero_le _) (by decide) ?_)
          intro v8 w8 own8 hg8 hw8
          have D8 : Hid (DTR w wr rd rb aB dB B tb p3 false [⟨77,v8,u32V (l ++ [f])⟩] K4 w8) := Lib.hid (by
           refine DA.out.push (v' := v8) (xs' := u32V (l ++ [f])) ?_ hg8 (by simpa using hw8)
           rw [u32V_length,List.length_append,HL1.out,u32V_append]
           exact own8)
          clear own8 hg8 hw8 OA DA
          go_wp2_with fail
          go_roundw
          case rel => exact ⟨i + 1,some f,l ++ [f],p3,rfl,by go_num,ST2.out,D8.out⟩
          case measure => simp [intOf]; try omega
      ·have hiz : i = m := by omega
       have i1 : decide ((i : Int) < (m : Int)) = false := decide_eq_false (by omega)
       have FE := Lib.hid (CL.out.fin hiz)
       have hlm : l.length = m := by have := CL.out.2.1; omega
       have hlb := CL.out.2.2.1
       obtain ⟨kr,sr,dr,rfl,hrd,hsr,h8⟩ := D.out.still (by omega) (fun v hv => Nat.lt_trans (hlb v hv) (by decide))
       have D8 := Lib.hid h8
       have LVo := Lib.hid (HSO.out wl (fun q hq => h8.has (List.mem_append_right _ (HKs.out q hq))))
       have LVr := Lib.hid (hsr wl (fun q hq => h8.has (List.mem_append_left _ hq)))
       have MG := Lib.hid (dmerged_any wl so sr o l dd dr (by rw [HLO.out]; exact hod) hrd LVo.out LVr.out (by have h1 := HOM.out; rw [HLO.out] at h1 ⊢; omega))
       have HLB := Lib.hid hlb
       have HLM := Lib.hid hlm
       rw [HLO.out,hlm] at MG
       rw [hlm]
       clear h8 hsr hlm hlb hrd D g0 g1 t0 t1
       go_wp2_with fail
       with_reducible refine MG.out.mono ?_
       rintro e w2 hM
       cases hmg : mrg o l with
       | none =>
        obtain ⟨rfl,k9⟩ := hM.2 hmg
        have D5 := Lib.hid (D8.out.next k9)
        obtain ⟨t0,t1,-⟩ := D5.out.cells
        obtain ⟨c0,-,-,-,-⟩ := CC.out _ _ _ _ _ _ (fun q hq => List.mem_append_right _ (HK4.out q hq)) D5.out
        have FN := Lib.hid (fun nq => NOX.out (by rw [ZF.out,FE.out,Option.bind_some,hmg]; rfl) _ _ _ _ _ (fun q hq => List.mem_append_right _ (HK4.out q hq)) (D5.out.drewN nq))
        clear hmg k9 hM MG
        go_upto_region 30 with fail
        go_quiet (fail)
        go_wp2_with fail
        go_ret2
        exact FN.out _
       | some sx =>
        obtain ⟨v,rfl,own,k9⟩ := hM.1 sx hmg
        have D5 := Lib.hid (D8.out.fresh k9 own)
        have pm := mrg_mem _ _ _ _ (Nat.le_refl _) hmg
        have hsb : ∀ v ∈ sx,v < 65536 := fun v hv => by
         rcases List.mem_append.1 (pm.mem_iff.1 hv) with h | h
         ·exact HO.out v h
         ·exact HLB.out v h
        have hsl : sx.length = deg := by rw [pm.length_eq,List.length_append,HLM.out]; exact HOM.out
        have HSL := Lib.hid hsl
        have FN : Hid (∀ nq,DocP Z deg w wr rd rb aB dB B K (.returned (.tuple #[v,.bool true])) (w2.drewN nq)) := Lib.hid fun nq => ⟨v,sx,p', true,rfl,fun _ => ⟨by rw [ZF.out,FE.out,Option.bind_some,hmg]; rfl,hsl⟩,fun h => (by cases h),by omega,hsb,OUT.out _ _ _ _ _ _ (fun q hq => List.mem_append_right _ (HK4.out q hq)) (D5.out.drewN nq)⟩
        obtain ⟨sv,cv,rfl⟩ := own_shape own
        rw [hsl] at FN ⊢
        obtain ⟨t0,t1,-⟩ := D5.out.cells
        obtain ⟨c0,-,-,-,-⟩ := CC.out _ _ _ _ _ _ (fun q hq => List.mem_append_right _ (HK4.out q hq)) D5.out
        clear hmg k9 hM MG own pm hsb hsl
        go_upto_region 30 with fail
        go_quiet (fail)
        go_wp2_with fail
        go_ret2
        exact FN.out _
end Go.Proofs.YtflnpcgnenhogaaGreatDoor.ls
