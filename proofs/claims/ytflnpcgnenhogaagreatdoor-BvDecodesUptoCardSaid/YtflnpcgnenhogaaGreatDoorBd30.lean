/- Own lemmas, laid together. -/
import Derived.Test.YtflnpcgnenhogaaGreatDoorBd29
import Derived.Test.YtflnpcgnenhogaaGreatDoorBd21
namespace Go.Proofs.YtflnpcgnenhogaaGreatDoor.ls
open Go.RowKit Go.Proofs.YtflnpcgnenhogaaGreatDoor.own Go.Proofs.YtflnpcgnenhogaaGreatDoor.bit

theorem TK.keep {x : Nat → Nat} {d t u : Nat} {w W : World} {rb qb a : Nat} {s : ByteArray} {bad : Bool} {ks : List (Nat × Obj)} (h : TK x d t u w rb qb s a bad ks W) (row : Array Value) (T : TypeId) : TK x d t u w rb qb s a bad ((W.heap.size, .cells row T (0, 0)) :: ks) (W.alloc (.cells row T)) := by
 obtain ⟨h1,h2⟩ := h
 refine ⟨(h1.keep row T).sub (fun p hp => ?_),fun p hp => ?_⟩
 ·rcases List.mem_cons.1 hp with rfl | hp
  ·exact List.mem_cons_of_mem _ (List.mem_cons_self ..)
  ·rcases List.mem_cons.1 hp with rfl | hp
   ·exact List.mem_cons_self ..
   ·exact List.mem_cons_of_mem _ (List.mem_cons_of_mem _ hp)
 ·rcases List.mem_cons.1 hp with rfl | hp
  ·have := lt_of_block (h1.row (List.mem_cons_self ..))
   show W.heap.size ≠ qb
   omega
  ·exact h2 p hp
theorem TR.sub {x : Nat → Nat} {d t u : Nat} {w W : World} {rb qb a : Nat} {s : ByteArray} {bad : Bool} {ks ks0 : List (Nat × Obj)} {l : List Nat} {v : Value} (h : TR x d t u w rb qb s a bad ks l v W) (hs : ∀ p ∈ ks0, p ∈ ks) : TR x d t u w rb qb s a bad ks0 l v W := by
 obtain ⟨h1,ks', h2,h3,h4,h5,h6⟩ := h
 refine ⟨h1,ks', h2,h3,fun p hp => h4 p (hs p hp),h5.sub (fun p hp => ?_),fun p hp => ?_⟩
 ·rcases List.mem_cons.1 hp with rfl | hp
  ·exact List.mem_cons_self ..
  ·rcases List.mem_append.1 hp with hp | hp
   ·exact List.mem_cons_of_mem _ (List.mem_append_left _ hp)
   ·exact List.mem_cons_of_mem _ (List.mem_append_right _ (hs p hp))
 ·rcases List.mem_append.1 hp with hp | hp
  ·exact h6 p (List.mem_append_left _ hp)
  ·exact h6 p (List.mem_append_right _ (hs p hp))
theorem ListE.sub {P : List Nat → Nat → Bool → Prop} {x : Nat → Nat} {d t u : Nat} {w : World} {rb qb : Nat} {s : ByteArray} {ks ks0 : List (Nat × Obj)} {e : Ending} {w' : World} (h : ListE P x d t u w rb qb s ks e w') (hs : ∀ p ∈ ks0, p ∈ ks) : ListE P x d t u w rb qb s ks0 e w' := by
 obtain ⟨v,l,a', bad,h1,h2,h3⟩ := h
 exact ⟨v,l,a', bad,h1,h2,h3.sub hs⟩
theorem TR.cell {x : Nat → Nat} {d t u : Nat} {w W : World} {rb qb a : Nat} {s : ByteArray} {bad : Bool} {ks : List (Nat × Obj)} {l : List Nat} {v : Value} (h : TR x d t u w rb qb s a bad ks l v W) (i : Nat) (hi : i < l.length) : ∃ g cap, v = .slice (some ⟨g, 0, none⟩) l.length cap ∧ W.cell? ⟨g, i, none⟩ = some (.int .u32 (l[i] : Int)) ∧ l.length ≤ cap := by
 rcases h.1.2 with ⟨_,h0⟩ | ⟨g,cap,cur,rfl,_,_,hn,_⟩
 ·omega
 ·refine ⟨g,cap,rfl,?_,hn⟩
  rw [h.1.cellAt i (by omega)]
  simp [u32V,hi]
set_option maxRecDepth 100000 in
set_option maxHeartbeats 6400000 in
theorem residuals_any (x : Nat → Nat) (d t u : Nat) (hdt : d ≠ t) (hdu : d ≠ u) (htu : t ≠ u) (w : World) (rb qb : Nat) (s : ByteArray) (a : Nat) (ks : List (Nat × Obj)) (W : World) (h : TK x d t u w rb qb s a false ks W)
  (xv n zet : Nat) (hx : xv < 65536) (hn : n <= 65536) (hz : 1 <= zet /\ zet <= 16) :
  Calls Tryz.prog 81 #[.pointer (some ⟨qb,0,none⟩),.int .i64 (xv : Int),.int .i64 (n : Int),.agg #[.int .u8 3,.int .u64 (zet : Int)]] W (ListE (CopP (rsd (unpack (nats s)) xv zet n none a) n) x d t u w rb qb s ks) := by
 obtain ⟨j0,hj,hj0,hj1,hj2⟩ := info_parts Tryz.infoU32
 have HDU := Lib.hid hdu
 have h0 := h.keep #[.int .u8 3,.int .u64 (zet : Int)] 101
 obtain ⟨sz,hsz⟩ : ∃ z,W.heap.size = z := ⟨_,rfl⟩
 obtain ⟨ks1,hks⟩ : ∃ k,(W.heap.size,Obj.cells #[.int .u8 3,.int .u64 (zet : Int)] 101 (0,0)) :: ks = k := ⟨_,rfl⟩
 have HM : Hid ((sz,Obj.cells #[.int .u8 3,.int .u64 (zet : Int)] 101 (0,0)) ∈ ks1) := Lib.hid (by rw [<- hks,hsz]; exact List.mem_cons_self ..)
 have HS : Hid (∀ p ∈ ks,p ∈ ks1) := Lib.hid (fun p hp => by rw [<- hks]; exact List.mem_cons_of_mem _ hp)
 rw [hks] at h0
 have TT : Hid (∀ W l v a bad (_ : TR x d t u w rb qb s a bad ks1 l v W) (mi : Int) (most : Nat) (_ : mi = (most : Int)) (_ : most <= 1000000),Calls Tryz.prog 107 #[.pointer (some ⟨qb,0,none⟩),cdV (.zet zet),.int .i64 mi] W fun e w' =>
   ∃ z a' : Nat,∃ bad' : Bool,e = .returned (.int .i64 (z : Int)) /\ TakeP (tk (unpack (nats s)) (.zet zet) most a) bad z a' bad' /\ TR x d t u w rb qb s a' bad' ks1 l v w') := Lib.hid (fun W l v a bad h mi most e hm => by
  subst e
  exact h.take hdt hdu htu (.zet zet) hz most hm)
 obtain ⟨B,hB⟩ : ∃ B,unpack (nats s) = B := ⟨_,rfl⟩
 rw [hB] at TT ⊢
 obtain ⟨F,hF⟩ : ∃ F,rsd B xv zet n none a = F := ⟨_,rfl⟩
 have HF := Lib.hid hF
 rw [hF]
 unfold cdV at TT
 have SUB : Hid (∀ e w', ListE (CopP F n) x d t u w rb qb s ks1 e w' -> ListE (CopP F n) x d t u w rb qb s ks e w') := Lib.hid (fun e w' h => h.sub HS.out)
 clear hdt hdu htu h hB hF hks hz HS
 go_enter Tryz.func81,Tryz.ntmps81
 go_upto_region 1 with fail
 generalize World.alloc W _ = W0 at h0 ⊢
 have H0 := Lib.hid (TR.nil h0)
 clear h0 hsz
 go_wp2_with fail
 go_loopw [9,13] (fun v9 v13 wr => ∃ (l : List Nat) (a' : Nat),v13 = .int .i64 (l.length : Int) /\ l.length <= n /\ (∀ v ∈ l,v < 65536) /\ F = ((rsd B xv zet (n - l.length) l.getLast? a').map fun t => (l ++ t.1,t.2)) /\ TR x d t u w rb qb s a' false ks1 l v9 wr) (fun _ v13 _ => n - (intOf v13).toNat)
 case atStart => exact ⟨[],a,rfl,Nat.zero_le _,fun v hv => (by cases hv),by
  rw [<- HF.out]
  show rsd B xv zet n none a = Option.map _ (rsd B xv zet n none a)
  cases rsd B xv zet n none a <;> rfl,H0.out⟩
 case round =>
  obtain ⟨l,a', rfl,hll,hl', hE,hT⟩ := hrel
  have HL := Lib.hid hl'
  have HE := Lib.hid hE
  have HT := Lib.hid hT
  obtain ⟨sv,sc,hv9⟩ := own_shape hT.1
  obtain ⟨i,hi⟩ : ∃ i,l.length = i := ⟨_,rfl⟩
  have HI := Lib.hid hi
  subst hv9
  rw [hi] at hll HE HT ⊢
  clear hl' hE hi
  by_cases hlt : i < n
  ·have i1 : decide ((i : Int) < (n : Int)) = true := decide_eq_true (by omega)
   have r0 := HT.out.re.row HM.out
   have c0 : wr.cell? ⟨sz,0,none⟩ = some (.int .u8 3) := by rw [cell_of_row _ _ _ _ _ _ r0]; rfl
   have c1 : wr.cell? ⟨sz,1,none⟩ = some (.int .u64 (zet : Int)) := by rw [cell_of_row _ _ _ _ _ _ r0]; rfl
   have T2 := Lib.hid (TT.out _ _ _ _ _ HT.out (262144 : Int) 262144 rfl (by decide))
   clear r0 hT
   go_wp2_with fail
   with_reducible refine T2.out.mono ?_
   rintro e2 w2 ⟨z2,a2,bad2,rfl,hp,h2⟩
   have hz2 : z2 <= 262144 := hp.le
   have H2 := Lib.hid h2
   have P2 := Lib.hid hp
   clear c0 c1 T2 h2 hp
   have FB : -200000 <= resAt xv l.getLast? z2 /\ resAt xv l.getLast? z2 <= 400000 := by
    cases hq : l.getLast? with
    | none =>
     show -200000 <= zag z2 + xv /\ zag z2 + xv <= 400000
     unfold zag
     split <;> omega
    | some e =>
     have := HL.out e (List.mem_of_getLast? hq)
     show -200000 <= (z2 : Int) + ((e : Int) + 1) /\ (z2 : Int) + ((e : Int) + 1) <= 400000
     omega
   obtain ⟨fr,hfr⟩ : ∃ fr,resAt xv l.getLast? z2 = fr := ⟨_,rfl⟩
   have HFR := Lib.hid hfr
   have hzz : z2 < 4611686018427387904 := by omega
   have ZG := Lib.hid (Zag_any z2 hzz w2)
   rw [hfr] at FB
   obtain ⟨fb1,fb2⟩ := FB
   go_upto_if 20 with fail
   go_cut [11] from 19 to 34 (fun v11 wc => v11 = .int .i64 fr /\ wc = w2)
   case first =>
    by_cases hi0 : i = 0
    ·subst hi0
     obtain rfl := List.eq_nil_of_length_eq_zero HI.out
     obtain ⟨g,hg⟩ : ∃ g,zag z2 = g := ⟨_,rfl⟩
     rw [hg] at ZG
     have e1 : g + (xv : Int) = fr := by rw [<- hg,<- hfr]; rfl
     clear hfr hg
     go_wp2_with fail
     with_reducible refine ZG.out.mono ?_
     rintro e3 w3 ⟨rfl,rfl⟩
     go_wp2_with fail
     go_meet
     case rel => exact ⟨rfl,rfl⟩
    ·obtain ⟨k,hk1⟩ : ∃ k,i = k + 1 := ⟨i - 1,by omega⟩
     have hk : k < l.length := by rw [HI.out]; omega
     obtain ⟨g,cap,hv,hcell,hcap⟩ := H2.out.cell k hk
     injection hv with hv1 hvn hv2
     subst hv1 hv2
     clear hvn hcap
     have hql : l.getLast? = some l[k] := by rw [List.getLast?_eq_getElem?,HI.out,hk1,Nat.add_sub_cancel,List.getElem?_eq_getElem hk]
     have hlb := HL.out l[k] (List.getElem_mem hk)
     obtain ⟨y,hy⟩ : ∃ y,l[k] = y := ⟨_,rfl⟩
     rw [hy] at hcell hlb hql
     have e1 : (z2 : Int) + ((y : Int) + 1) = fr := by rw [<- hfr,hql]; rfl
     have e3 : ((i : Int) == 0) = false := beq_eq_false_iff_ne.2 (by omega)
     have e4 : (i : Int) - 1 = (k : Int) := by omega
     have e5 : k < i := by omega
     clear hfr hql hy hk1 hi0 hk
     go_wp2_with fail
     go_meet
     case rel => exact ⟨rfl,rfl⟩
   case rest =>
    obtain ⟨rfl,rfl⟩ := hcut
    obtain ⟨q0,q1,qf⟩ := H2.out.cells
    have EQ : Hid (F = ((tk B (.zet zet) 262144 a').bind fun q => if resAt xv l.getLast? q.1 < 0 \/ 65536 <= resAt xv l.getLast? q.1 then none else
   (rsd B xv zet (n - (i + 1)) (some (resAt xv l.getLast? q.1).toNat) q.2).map fun t => ((resAt xv l.getLast? q.1).toNat :: t.1,t.2)).map fun t => (l ++ t.1,t.2)) := Lib.hid (by
     have h := HE.out
     rw [show n - i = (n - (i + 1)) + 1 by omega] at h
     exact h)
    have BAD : Hid (bad2 = true \/ fr < 0 \/ 65536 <= fr -> F = none) := Lib.hid (fun hb => by
     rw [EQ.out]
     have p2 := P2.out
     unfold TakeP at p2
     cases ho : tk B (.zet zet) 262144 a' with
     | none => rfl
     | some q =>
      rw [ho] at p2
      obtain ⟨rfl,rfl,rfl⟩ := p2
      rw [Option.bind_some,HFR.out]
      rcases hb with hb | hb
      ·cases hb
      ·rw [if_pos hb]
       rfl)
    have GOOD : Hid (bad2 = false /\ ¬ (fr < 0 \/ 65536 <= fr) -> F = (rsd B xv zet (n - (i + 1)) (some fr.toNat) a2).map fun t => ((l ++ [fr.toNat]) ++ t.1,t.2)) := Lib.hid (fun hb => by
     rw [EQ.out]
     have p2 := P2.out
     unfold TakeP at p2
     cases ho : tk B (.zet zet) 262144 a' with
     | none =>
      rw [ho,hb.1] at p2
      exact absurd p2.2 (by decide)
     | some q =>
      rw [ho] at p2
      obtain ⟨rfl,rfl,rfl⟩ := p2
      rw [Option.bind_some,HFR.out,if_neg hb.2,Option.map_map]
      congr 1
      funext t
      simp [List.append_assoc])
    have OUT : Hid (F = none -> ListE (CopP F n) x d t u w rb qb s ks (Ending.returned (.slice none 0 0)) (wc.setCell ⟨qb,1,none⟩ (.bool true))) := Lib.hid (fun hf => SUB.out _ _ ⟨_,[],a2,true,rfl,⟨Nat.zero_le _,fun v hv => (by cases hv),fun _ => hf,fun h => (by cases h)⟩,TR.nil (H2.out.mark HDU.out true).base⟩)
    have VX := Lib.hid (fun W => vertex_any fr W)
    clear EQ P2 HE hfr ZG hzz
    by_cases hb : bad2 = true \/ fr < 0 \/ 65536 <= fr
    ·have HO := Lib.hid (OUT.out (BAD.out hb))
     clear OUT BAD GOOD
     rcases Bool.eq_false_or_eq_true bad2 with rfl | rfl
     ·clear hb VX
      go_wp2_with fail
      go_ret
      exact HO.out
     ·have hf : decide (0 <= fr /\ fr < 65536) = false := decide_eq_false (by rcases hb with hb | hb; exact absurd hb (by decide); omega)
      rw [hf] at VX
      clear hb hf
      go_wp2_with fail
      with_reducible refine (VX.out _).mono ?_
      rintro e3 w3 ⟨rfl,rfl⟩
      go_wp2_with fail
      go_ret
      exact HO.out
    ·have hb3 : bad2 = false := by
      cases bad2 with
      | false => rfl
      | true => exact absurd (.inl rfl) hb
     subst hb3
     have hb2 : ¬ (fr < 0 \/ 65536 <= fr) := fun h => hb (.inr h)
     have GO2 := Lib.hid (GOOD.out ⟨rfl,hb2⟩)
     have hf : decide (0 <= fr /\ fr < 65536) = true := decide_eq_true (by omega)
     rw [hf] at VX
     obtain ⟨f,rfl⟩ : ∃ f : Nat,fr = (f : Int) := ⟨fr.toNat,by omega⟩
     rw [Int.toNat_natCast] at GO2
     have k1 : f < 65536 := by omega
     clear hb hb2 OUT BAD GOOD hf
     go_wp2_with fail
     with_reducible refine (VX.out _).mono ?_
     rintro e3 w3 ⟨rfl,rfl⟩
     go_upto_region 10 with fail
     have H4 := Lib.hid (H2.out.mark HDU.out false)
     generalize World.setCell wc _ _ = w4 at H4 ⊢
     obtain ⟨q0,q1,qf⟩ := H4.out.cells
     have OWN1 := Lib.hid (HI.out ▸ H4.out.1.alloc (.cells #[.int .u32 (f : Int)] 77))
     have C1 : Hid (∀ j u,([Value.int .u32 (f : Int)] : List Value)[j]? = some u -> (w4.alloc (.cells #[.int .u32 (f : Int)] 77)).cell? ((⟨w4.heap.size,0,none⟩ : Addr).add j) = some u) := Lib.hid (fun j u hu => by
      rw [Addr.add_lit,cell_of_row _ _ _ _ _ _ (heap_alloc_new _ _),Nat.zero_add]; simpa using hu)
     have C3 : Hid (i + 1 <= maxLen) := Lib.hid (by simp only [maxLen]; omega)
     have C4 : Hid ((i + 1) * 4 <= 140737488355328) := Lib.hid (by omega)
     go_wp2_with (at_builtin; refine wpList_append_at _ rfl _ _ 34 rfl 0 77 j0 _ 1 4 Tryz.underlying34 hj hj0 hj1 hj2 rfl (by decide) _ i _ rfl OWN1.out ⟨w4.heap.size,0,none⟩ 1 1 [.int .u32 (f : Int)] rfl rfl C1.out (fun u hu => by simp at hu; subst hu; rfl) C3.out C4.out (Nat.zero_le _) (by decide) ?_)
     intro v' w' own' hg hw
     have HA2 : Hid (TR x d t u w rb qb s a2 false ks1 (l ++ [f]) v' w') := Lib.hid ((H4.out.next ((Below.refl _ _).alloc (Nat.le_refl _) (.cells #[.int .u32 (f : Int)] 77))).add HDU.out [f] 1 rfl (by rw [HI.out]; exact own') hg (by simpa using hw))
     obtain ⟨av,dv,rfl⟩ := own_shape own'
     clear own' hg hw C1 C3 C4 OWN1 q0 q1 qf
     go_wp2_with fail
     go_roundw
     case rel => exact ⟨l ++ [f],a2,by rw [List.length_append,HI.out]; go_num,by rw [List.length_append,HI.out]; exact hlt,fun v hv => (List.mem_append.1 hv).elim (HL.out v) (fun h => by rw [List.mem_singleton.1 h]; exact k1),by rw [List.length_append,HI.out,List.getLast?_concat]; exact GO2.out,HA2.out⟩
     case measure => simp [intOf]; omega
  ·have hin : i = n := by omega
   subst hin
   have i1 : decide ((i : Int) < (i : Int)) = false := decide_eq_false (by omega)
   have HO : Hid (ListE (CopP F i) x d t u w rb qb s ks (Ending.returned (.slice sv i sc)) wr) := Lib.hid (SUB.out _ _ ⟨_,l,a', false,rfl,⟨by rw [HI.out]; exact Nat.le_refl _,HL.out,fun h => (by cases h),fun _ => by
    rw [HE.out,Nat.sub_self]
    show some (l ++ [],a') = _
    rw [List.append_nil]⟩,HT.out⟩)
   clear HE hlt
   go_wp2_with fail
   go_ret
   exact HO.out
theorem lay_parts (x : Nat) (succ ref : List Nat) (r : Nat) (p : Pr) : lay x succ ref r p = bitsOf (hdN succ r p) ++ bitsOf (tlN x succ ref r p) := by
 unfold lay nums
 rw [bitsOf_append]
theorem hread_lay {B R : Bits} {a x : Nat} {succ ref : List Nat} {r : Nat} {p : Pr} (hm : MayN x succ ref r p) (h : B.drop a = lay x succ ref r p ++ R) :
  hread p.win B a = some (succ.length,(if succ = [] then 0 else r),a + (bitsOf (hdN succ r p)).length) /\ B.drop (a + (bitsOf (hdN succ r p)).length) = bitsOf (tlN x succ ref r p) ++ R := by
 obtain ⟨⟨hp1,_,_⟩,_,hsu,_,hr1,_⟩ := hm
 have hl := hsu.len
 rw [lay_parts,List.append_assoc] at h
 have key : B.drop (a + (bitsOf (hdN succ r p)).length) = bitsOf (tlN x succ ref r p) ++ R := by rw [<- List.drop_drop,h,List.drop_left]
 refine ⟨?_,key⟩
 by_cases hs : succ = []
 ·have e : bitsOf (hdN succ r p) = cb .gam 0 := by
   unfold hdN
   rw [if_pos hs,hs]
   show cb .gam 0 ++ [] = _
   rw [List.append_nil]
  rw [e] at h
  unfold hread
  rw [h,rd_cb .gam trivial 0 (by decide),Option.bind_some,if_neg (by simp),if_pos (by simp),e,hs]
  rfl
 ·have h0 : 0 < succ.length := List.length_pos_iff.2 hs
  by_cases hw : 0 < p.win
  ·have e : bitsOf (hdN succ r p) = cb .gam succ.length ++ cb .una r := by
    unfold hdN
    rw [if_neg hs,if_pos hw]
    show cb .gam _ ++ (cb .una r ++ []) = _
    rw [List.append_nil]
   rw [e,List.append_assoc] at h
   unfold hread
   rw [h,rd_cb .gam trivial succ.length (show succ.length <= 281474976710654 by omega),Option.bind_some,if_pos ⟨h0,hw⟩]
   dsimp only
   rw [<- List.drop_drop,h,List.drop_left,rd_cb .una trivial r (show r <= 65535 by omega),Option.bind_some,if_pos ⟨hl,hr1⟩,if_neg hs,e,List.length_append,Nat.add_assoc]
  ·have e : bitsOf (hdN succ r p) = cb .gam succ.length := by
    unfold hdN
    rw [if_neg hs,if_neg hw]
    show cb .gam _ ++ [] = _
    rw [List.append_nil]
   rw [e] at h
   unfold hread
   rw [h,rd_cb .gam trivial succ.length (show succ.length <= 281474976710654 by omega),Option.bind_some,if_neg (fun h => hw h.2),if_pos hl,if_neg hs,e,show r = 0 by omega]
theorem hd_len {x : Nat} {succ ref : List Nat} {r : Nat} {p : Pr} : (lay x succ ref r p).length = (bitsOf (hdN succ r p)).length + (bitsOf (tlN x succ ref r p)).length := by
 rw [lay_parts,List.length_append]
end Go.Proofs.YtflnpcgnenhogaaGreatDoor.ls
