/- Own lemmas, laid together. -/
import Derived.Test.YtflnpcgnenhogaaGreatDoorBd39
import Derived.Test.YtflnpcgnenhogaaGreatDoorBd32
namespace Go.Proofs.YtflnpcgnenhogaaGreatDoor.ls
open Go.RowKit Go.Proofs.YtflnpcgnenhogaaGreatDoor.own Go.Proofs.YtflnpcgnenhogaaGreatDoor.bit

def DbP (P : List Nat) (O : Option (List Tk × Nat)) (w : World) (rd : Option (Nat × ByteArray × Nat)) (rb : Nat) (aB : Option Addr) (dB : Nat) (B : Bits) (f : Nat) (K : List (Nat × Obj)) (e : Ending) (w' : World) : Prop :=
 match O with
 | some q => ∃ sg dg sa da kx,e = .returned (.tuple #[.slice sg q.1.length dg,.slice sa P.length da,.int .i64 0]) /\ q.1.length <= dg /\ P.length <= da /\ StG kx sg (q.1.map (·.1)) /\ StU kx sa P /\ (∀ p ∈ kx,∀ q' ∈ K,p.1 ≠ q'.1) /\ DRd w none rd rb aB dB B q.2 (kx ++ K) w'
 | none => e = .returned (.tuple #[.slice none 0 0,.slice none 0 0,.int .i64 4]) /\ DRd w none rd rb aB dB B f K w'
def TkS (b : Bp) (T : List Tk) (deg ref : Nat) (gs : List (Nat × Obj)) (v17 v18 v19 : Value) : Prop :=
 ∃ (ok : Bool) (l : List Nat) (ch : Nat) (s : Option Addr) (d : Nat),v17 = .slice s l.length d /\ v18 = .int .i64 (ch : Int) /\ v19 = .bool ok /\ l.length <= d /\ Stands gs s l /\ Ris l /\ (0 < ref \/ l = []) /\ (ok = true -> takenB b T deg ref = some (l,ch)) /\ (ok = false -> takenB b T deg ref = none)
theorem hread_deg {win : Nat} {B : Bits} {a deg ref a1 : Nat} (h : hread win B a = some (deg, ref, a1)) (hr : 0 < ref) : 0 < deg := by
 unfold hread at h
 obtain ⟨q1,h1,h⟩ := Option.bind_eq_some_iff.1 h
 split at h
 ·rename_i hc
  obtain ⟨q2,h2,h⟩ := Option.bind_eq_some_iff.1 h
  split at h
  ·injection h with h
   injection h with e1 _
   omega
  ·cases h
 ·split at h
  ·injection h with h
   injection h with _ h
   injection h with e2 _
   omega
  ·cases h
theorem own_cell {W : World} {base : Nat} {Tp : TypeId} {s : Option Addr} {n cap : Nat} {xs : List Value} (h : W.ownsRow base Tp 1 (.slice s n cap) n xs) {k : Nat} (hk : k < n) : ∃ g, s = some ⟨g, 0, none⟩ ∧ W.cell? ⟨g, k, none⟩ = xs[k]? := by
 rcases h.2 with ⟨hv,h0⟩ | ⟨g,c,cur,hv,hbb,hg,hn,hc,hcs,_⟩
 ·omega
 ·injection hv with hv _ _
  subst hv
  exact ⟨g,rfl,h.cellAt k (by omega)⟩
theorem DDecR.any {O : Option (List Nat × Nat)} {w : World} {wr : Option (Nat × Bits)} {rd : Option (Nat × ByteArray × Nat)} {rb : Nat} {aB : Option Addr} {dB : Nat} {B : Bits} {a : Nat} {rs : List Rw} {K : List (Nat × Obj)} {e : Ending} {w' : World} (h : DDecR O w wr rd rb aB dB B a rs K e w') : ∃ p' rs', DRR w wr rd rb aB dB B p' rs' K w' := by
 cases O with
 | none => exact ⟨_,_,h.2⟩
 | some q =>
  obtain ⟨v,_,h⟩ := h
  exact ⟨_,_,h⟩
theorem takenB_chain {b : Bp} {T : List Tk} {deg ref : Nat} {t : Tk} (h : takenB b T deg ref = some t) : t.2 ≤ b.depth := by
 unfold takenB at h
 split at h
 ·unfold backB at h
  split at h
  ·rename_i hc
   injection h with h
   subst h
   exact hc.2.2.2.2.2
  ·cases h
 ·injection h with h
  subst h
  exact Nat.zero_le _
theorem readB_chain {b : Bp} {n f : Nat} {B : Bits} : ∀ k s, readB b n B f k = some s → ∀ t ∈ s.1, t.2 ≤ b.depth
 | 0,s,h,t,ht => by
  injection h with h
  subst h
  cases ht
 | k + 1,s,h,t,ht => by
  unfold readB at h
  obtain ⟨s0,h0,h⟩ := Option.bind_eq_some_iff.1 h
  obtain ⟨q,hq,h⟩ := Option.bind_eq_some_iff.1 h
  split at h
  ·injection h with h
   subst h
   rcases List.mem_append.1 ht with ht | ht
   ·exact readB_chain k s0 h0 t ht
   ·rw [List.mem_singleton.1 ht]
    unfold nextB at hq
    obtain ⟨hh,h1,hq⟩ := Option.bind_eq_some_iff.1 hq
    obtain ⟨tt,h2,hq⟩ := Option.bind_eq_some_iff.1 hq
    obtain ⟨qq,h3,hq⟩ := Option.bind_eq_some_iff.1 hq
    injection hq with hq
    subst hq
    exact (takenB_chain h2 : tt.2 <= b.depth)
  ·cases h
set_option maxRecDepth 100000 in
set_option maxHeartbeats 6400000 in
theorem dbdec_any {w W : World} {rd : Option (Nat × ByteArray × Nat)} {rb : Nat} {aB : Option Addr} {dB : Nat} {B : Bits} {f : Nat} {K : List (Nat × Obj)} (h : DRd w none rd rb aB dB B f K W) (b : Bp) (hb : BpOk (b.p.win : Int) (b.depth : Int) (b.p.itv : Int) (b.p.zet : Int) (b.cap : Int)) (hbp : b.p.ok) (n : Nat) (hn : n ≤ 65536) :
  Calls Tryz.prog 34 #[.pointer (some ⟨rb,0,none⟩),.int .i64 (n : Int),bpV (b.p.win : Int) (b.depth : Int) (b.p.itv : Int) (b.p.zet : Int) (b.cap : Int)] W (DbP (rplaces b n B f (n + 1)) (readB b n B f n) w rd rb aB dB B f K) := by
 obtain ⟨j0,hj,hj0,hj1,hj2⟩ := info_parts Tryz.infoU64
 obtain ⟨g0,hg,hg0,hg1,hg2⟩ := info_parts Tryz.infoU32s
 obtain ⟨i0,hi,hi0,hi1,hi2⟩ := info_parts Tryz.infoInt
 have hdp : b.depth <= 16 := by have := hb.2.2.1; omega
 have hcp : b.cap <= 65536 := by have := hb.2.2.2.2; omega
 have CK := Lib.hid (fun W' => dbcheck_any (b.p.win : Int) (b.depth : Int) (b.p.itv : Int) (b.p.zet : Int) (b.cap : Int) W')
 rw [if_pos hb] at CK
 have LI := Lib.hid (fun W' => dblist_any (b.p.win : Int) (b.depth : Int) (b.p.itv : Int) (b.p.zet : Int) (b.cap : Int) W')
 have HBS := Lib.hid h.2.2.1
 have hf := h.2.2.2.1
 have hB9 := h.2.2.2.2.2.1
 have h9 := h.add #[.int .i64 (b.p.win : Int),.int .i64 (b.depth : Int),.int .i64 (b.p.itv : Int),.int .i64 (b.p.zet : Int),.int .i64 (b.cap : Int)] 56
 obtain ⟨pb,hpb⟩ : ∃ z,W.heap.size = z := ⟨_,rfl⟩
 rw [hpb] at h9
 obtain ⟨K1,hK1⟩ : ∃ K', ((pb,Obj.cells #[.int .i64 (b.p.win : Int),.int .i64 (b.depth : Int),.int .i64 (b.p.itv : Int),.int .i64 (b.p.zet : Int),.int .i64 (b.cap : Int)] 56 (0,0)) :: K) = K' := ⟨_,rfl⟩
 rw [hK1] at h9
 have H0 := Lib.hid h9
 have HK1 : Hid (∀ q ∈ K,q ∈ K1) := Lib.hid (fun q hq => by rw [<- hK1]; exact List.mem_cons_of_mem _ hq)
 have BS1 : Hid (BSt K1 aB B) := Lib.hid (HBS.out.more HK1.out)
 have PC : Hid (∀ W' p rs K', (∀ q ∈ K1,q ∈ K') -> DRR w none rd rb aB dB B p rs K' W' -> W'.cell? ⟨pb,0,none⟩ = some (.int .i64 (b.p.win : Int)) /\ W'.cell? ⟨pb,1,none⟩ = some (.int .i64 (b.depth : Int)) /\ W'.cell? ⟨pb,2,none⟩ = some (.int .i64 (b.p.itv : Int)) /\ W'.cell? ⟨pb,3,none⟩ = some (.int .i64 (b.p.zet : Int)) /\ W'.cell? ⟨pb,4,none⟩ = some (.int .i64 (b.cap : Int)) /\ W'.cell? ⟨rb,1,none⟩ = some (.int .i64 (p : Int)) /\ W'.frozen? ⟨rb,1,none⟩ = false) := Lib.hid (fun W' p rs K' hk h => by
  have r : W'.heap[pb]? = some (.cells #[.int .i64 (b.p.win : Int),.int .i64 (b.depth : Int),.int .i64 (b.p.itv : Int),.int .i64 (b.p.zet : Int),.int .i64 (b.cap : Int)] 56 (0,0)) := h.has (q := (pb,_)) (hk _ (by rw [<- hK1]; exact List.mem_cons_self ..))
  exact ⟨by rw [cell_of_row _ _ _ _ _ _ r]; rfl,by rw [cell_of_row _ _ _ _ _ _ r]; rfl,by rw [cell_of_row _ _ _ _ _ _ r]; rfl,by rw [cell_of_row _ _ _ _ _ _ r]; rfl,by rw [cell_of_row _ _ _ _ _ _ r]; rfl,h.cells.2⟩)
 have NO : Hid (∀ k W' p rs K', k <= n -> readB b n B f k = none -> (∀ q ∈ K1,q ∈ K') -> DRR w none rd rb aB dB B p rs K' W' -> DbP (rplaces b n B f (n + 1)) (readB b n B f n) w rd rb aB dB B f K (.returned (.tuple #[.slice none 0 0,.slice none 0 0,.int .i64 4])) (W'.setCell ⟨rb,1,none⟩ (.int .i64 (f : Int)))) := Lib.hid (fun k W' p rs K' hk he hs h => by
  rw [readB_none he hk]
  exact ⟨rfl,((h.set f hf).bare.less (fun q hq => hs _ (HK1.out q hq)) HBS.out).lone⟩)
 have HH := Lib.hid (fun W' p rs K' (h : DRR w none rd rb aB dB B p rs K' W') => h.head b.p hbp)
 have DD := Lib.hid (fun W' p rs K' (h : DRR w none rd rb aB dB B p rs K' W') x deg r hx hd hr ar ref cap hcap hris hr0 hA => h.dec x n deg r b.p hx hn hd hr hbp ar ref cap hcap hris hr0 hA)
 unfold parV at LI HH DD
 unfold bpV at CK LI ⊢
 have f4 : decide ((n : Int) < 0) = false := decide_eq_false (by omega)
 have f5 : decide ((65536 : Int) < (n : Int)) = false := decide_eq_false (by omega)
 have f6 : decide (65536 < n) = false := decide_eq_false (by omega)
 clear h h9 hb hK1
 go_enter Tryz.func34,Tryz.ntmps34
 go_upto_region 1 with fail
 generalize World.alloc W _ = W0 at H0 ⊢
 clear hpb
 obtain ⟨p0,p1,p2,p3,p4,u1,-⟩ := PC.out _ _ _ _ (fun q hq => hq) H0.out.rows
 go_wp2_with fail
 with_reducible refine (CK.out _).mono ?_
 rintro e w1 ⟨rfl,k1⟩
 have H1 := Lib.hid (H0.out.next k1)
 clear p0 p1 p2 p3 p4 u1 k1 H0 CK
 obtain ⟨-,-,-,-,-,u1,-⟩ := PC.out _ _ _ _ (fun q hq => hq) H1.out.rows
 go_upto_region 5 with fail
 have hS := DBs.start H1.out
 obtain ⟨sb,hsb⟩ : ∃ z,w1.heap.size = z := ⟨_,rfl⟩
 rw [hsb] at hS ⊢
 generalize World.alloc w1 _ = w2 at hS ⊢
 have S0 := Lib.hid hS
 clear hS hsb u1
 go_wp2_with fail
 go_loopw [10,11,12,13,14] (fun v10 v11 v12 v13 v14 wr => ∃ (i : Nat) (T : List Tk) (a' : Nat) (gs : List (Nat × Obj)) (V : List Value),v14 = .int .i64 (i : Int) /\ i <= n /\ readB b n B f i = some (T,a') /\ v11 = .int .i64 (edges (T.map (·.1)) : Int) /\ DBs w rd rb aB dB B a' T v12 v13 v10 (rplaces b n B f (i + 1)) gs V K1 wr) (fun _ _ _ _ v14 _ => n - (intOf v14).toNat)
 case atStart => exact ⟨0,[],f,[],[],rfl,Nat.zero_le _,rfl,rfl,by rw [rplaces_one]; exact S0.out⟩
 case round =>
  obtain ⟨i,T,a', gs,V,rfl,hin,hrd,rfl,hD⟩ := hrel
  rename World => w4
  have HD := Lib.hid hD
  obtain ⟨so,co,rfl⟩ := own_shape hD.ownO
  obtain ⟨sc,cc,rfl⟩ := own_shape hD.ownC
  obtain ⟨sa,ca,rfl⟩ := own_shape hD.ownA
  have ha' : a' <= B.length := hD.1.2.2.2.1
  obtain ⟨hTl,hTO,haa,hE,hTn⟩ := readB_some hbp hn hf i _ hrd ha'
  dsimp only at hTl hTO haa hE hTn
  have CHN := Lib.hid (readB_chain i _ hrd)
  have hVl : V.length = i := by rw [hD.2.1.1,List.length_map,hTl]
  have hCl : (chV T).length = i := by rw [chV_length,hTl]
  have hAl : (rplaces b n B f (i + 1)).length = i + 1 := rplaces_length ..
  have LENS := Lib.hid (And.intro hVl (And.intro hCl hAl))
  have HTO := Lib.hid hTO
  have HRD := Lib.hid hrd
  obtain ⟨E,hEE⟩ : ∃ z,edges (T.map (·.1)) = z := ⟨_,rfl⟩
  have HEE := Lib.hid hEE
  have HTN := Lib.hid hTn
  have HTL := Lib.hid hTl
  rw [hEE] at hE ⊢
  rw [hVl,hCl,hAl]
  clear hD S0 hTO hrd hEE hTn hTl hVl hCl hAl
  by_cases hlt : i < n
  · --A
   have i1 : decide ((i : Int) < (n : Int)) = true := decide_eq_true (by omega)
   obtain ⟨p0,p1,p2,p3,p4,u1,-⟩ := PC.out _ _ _ _ (fun q hq => List.mem_append_right _ hq) HD.out.1
   go_wp2_with fail
   with_reducible refine (LI.out _).mono ?_
   rintro e w5 ⟨rfl,k5⟩
   have H5 := HD.out.next k5
   have R5 := Lib.hid (HH.out _ _ _ _ H5.1)
   have D5 := Lib.hid H5
   clear p0 p1 p2 p3 p4 u1 k5 H5
   go_wp2_with fail
   with_reducible refine R5.out.mono ?_
   rintro e w6 ⟨rfl,h6⟩
   have D6 := Lib.hid (D5.out.moved h6)
   clear R5 h6 D5
   obtain ⟨ho,hho⟩ : ∃ o,hread b.p.win B a' = o := ⟨_,rfl⟩
   have HHO := Lib.hid hho
   rw [hho] at D6 ⊢
   clear hho
   cases ho with
   | none =>
    have h7 := D6.out.add #[.int .i64 0,.int .i64 0] 33
    have NB : Hid (readB b n B f (i + 1) = none) := Lib.hid (by unfold readB nextB; rw [HRD.out,Option.bind_some]; dsimp only; rw [HHO.out]; rfl)
    obtain ⟨hb,hhb⟩ : ∃ z,w6.heap.size = z := ⟨_,rfl⟩
    rw [hhb] at h7
    unfold hrV
    go_upto_region 12 with fail
    generalize World.alloc w6 _ = w7 at h7 ⊢
    have D7 := Lib.hid h7
    obtain ⟨p0,p1,p2,p3,p4,u1,u2⟩ := PC.out _ _ _ _ (fun q hq => List.mem_append_right _ (List.mem_cons_of_mem _ hq)) h7.1
    have FN := Lib.hid (NO.out (i + 1) _ _ _ _ (by omega) NB.out (fun q hq => List.mem_append_right _ (List.mem_cons_of_mem _ hq)) h7.1)
    have w1 : IntKind.i64.wrap (E : Int) = (E : Int) := IntWalk.i64_in _ (by omega)
    clear h7 hhb D6
    go_wp2_with fail
    exact bodyPost_ret (v := .tuple #[.slice none 0 0,.slice none 0 0,.int .i64 4]) (by simp [results,Tryz.results34,go_sem]) rfl FN.out
   | some q =>
    obtain ⟨deg,ref,a1⟩ := q
    obtain ⟨hr1,hr2,hr3⟩ := hread_some HHO.out
    dsimp only at hr1 hr2 hr3
    have h7 := D6.out.add #[.int .i64 (deg : Int),.int .i64 (ref : Int)] 33
    obtain ⟨hb,hhb⟩ : ∃ z,w6.heap.size = z := ⟨_,rfl⟩
    rw [hhb] at h7
    unfold hrV
    unfold hrA at h7
    dsimp only at h7 ⊢
    obtain ⟨K2,hK2⟩ : ∃ K', (hb,Obj.cells #[.int .i64 (deg : Int),.int .i64 (ref : Int)] 33 (0,0)) :: K1 = K' := ⟨_,rfl⟩
    rw [hK2] at h7
    have HK2 : Hid (∀ q ∈ K1,q ∈ K2) := Lib.hid (fun q hq => by rw [<- hK2]; exact List.mem_cons_of_mem _ hq)
    have HC : Hid (∀ W' p rs K', (∀ q ∈ K2,q ∈ K') -> DRR w none rd rb aB dB B p rs K' W' -> W'.cell? ⟨hb,0,none⟩ = some (.int .i64 (deg : Int)) /\ W'.cell? ⟨hb,1,none⟩ = some (.int .i64 (ref : Int))) := Lib.hid (fun W' p rs K' hk h => by
     have r : W'.heap[hb]? = some (.cells #[.int .i64 (deg : Int),.int .i64 (ref : Int)] 33 (0,0)) := h.has (q := (hb,_)) (hk _ (by rw [<- hK2]; exact List.mem_cons_self ..))
     exact ⟨by rw [cell_of_row _ _ _ _ _ _ r]; rfl,by rw [cell_of_row _ _ _ _ _ _ r]; rfl⟩)
    go_upto_region 12 with fail
    generalize World.alloc w6 _ = w7 at h7 ⊢
    have D7 := Lib.hid h7
    obtain ⟨p0,p1,p2,p3,p4,u1,-⟩ := PC.out _ _ _ _ (fun q hq => List.mem_append_right _ (HK2.out q hq)) h7.1
    obtain ⟨h0,h1⟩ := HC.out _ _ _ _ (fun q hq => List.mem_append_right _ hq) h7.1
    clear h7 hhb D6 hK2
    rw [LENS.out.1,LENS.out.2.1,LENS.out.2.2] at D7
    have e4 : decide ((ref : Int) <= (i : Int)) = decide (ref <= i) := decide_eq_decide.2 (by omega)
    go_upto_region 15 with fail
    go_cut [19,62] from 49 to 63 (fun v19 v62 wc => v19 = .bool (decide (ref <= i)) /\ v62 = .bool (decide (0 < ref /\ ref <= i)) /\ DBs w rd rb aB dB B a1 T (.slice so i co) (.slice sc i cc) (.slice sa (i + 1) ca) (rplaces b n B f (i + 1)) gs V K2 wc)
    case first =>
     by_cases hri : ref <= i
     ·have i2 : decide (ref <= i) = true := decide_eq_true hri
      have I2 := Lib.hid i2
      by_cases hr0 : 0 < ref
      ·have i3 : decide ((0 : Int) < (ref : Int)) = true := decide_eq_true (by omega)
       have R : Hid (decide (0 < ref /\ ref <= i) = true) := Lib.hid (decide_eq_true ⟨hr0,hri⟩)
       go_wp2_with fail
       go_meet
       case rel => exact ⟨by rw [I2.out],by rw [R.out],D7.out⟩
      ·have i3 : decide ((0 : Int) < (ref : Int)) = false := decide_eq_false (by omega)
       have R : Hid (decide (0 < ref /\ ref <= i) = false) := Lib.hid (decide_eq_false (fun h => hr0 h.1))
       go_wp2_with fail
       go_meet
       case rel => exact ⟨by rw [I2.out],by rw [R.out],D7.out⟩
     ·have i2 : decide (ref <= i) = false := decide_eq_false hri
      have I2 := Lib.hid i2
      have R : Hid (decide (0 < ref /\ ref <= i) = false) := Lib.hid (decide_eq_false (fun h => hri h.2))
      go_wp2_with fail
      go_meet
      case rel => exact ⟨by rw [I2.out],by rw [R.out],D7.out⟩
    case rest =>
    rename World => w8
    obtain ⟨rfl,rfl,h8⟩ := hcut
    have D8 := Lib.hid h8
    obtain ⟨p0,p1,p2,p3,p4,u1,-⟩ := PC.out _ _ _ _ (fun q hq => List.mem_append_right _ (HK2.out q hq)) h8.1
    obtain ⟨h0,h1⟩ := HC.out _ _ _ _ (fun q hq => List.mem_append_right _ hq) h8.1
    clear h8 D7
    obtain ⟨bb,hbb⟩ : ∃ z,decide (0 < ref /\ ref <= i) = z := ⟨_,rfl⟩
    have HBB := Lib.hid hbb
    rw [hbb]
    clear hbb
    go_upto_if 62 with fail
    go_cut [17,18,19] from 63 to 101 (fun v17 v18 v19 wc => TkS b T deg ref gs v17 v18 v19 /\ DBs w rd rb aB dB B a1 T (.slice so i co) (.slice sc i cc) (.slice sa (i + 1) ca) (rplaces b n B f (i + 1)) gs V K2 wc)
    case first =>
     cases bb with
     | false =>
      by_cases hri : ref <= i
      ·have i2 : decide (ref <= i) = true := decide_eq_true hri
       have I2 := Lib.hid i2
       have hr0 : ¬ 0 < ref := fun h => of_decide_eq_false HBB.out ⟨h,hri⟩
       have TK : Hid (TkS b T deg ref gs (.slice none 0 0) (.int .i64 0) (.bool true)) := Lib.hid ⟨true,[],0,none,0,rfl,rfl,rfl,Nat.le_refl _,fun W _ => LV.nil,⟨List.Pairwise.nil,fun v hv => by cases hv⟩,.inr rfl,fun _ => if_neg hr0,fun h => (by cases h)⟩
       go_wp2_with fail
       go_meet
       case rel => exact ⟨by rw [I2.out]; exact TK.out,D8.out⟩
      ·have i2 : decide (ref <= i) = false := decide_eq_false hri
       have I2 := Lib.hid i2
       have TK : Hid (TkS b T deg ref gs (.slice none 0 0) (.int .i64 0) (.bool false)) := Lib.hid ⟨false,[],0,none,0,rfl,rfl,rfl,Nat.le_refl _,fun W _ => LV.nil,⟨List.Pairwise.nil,fun v hv => by cases hv⟩,.inr rfl,fun h => (by cases h),fun _ => by
        unfold takenB
        rw [if_pos (by omega)]
        unfold backB
        rw [if_neg (fun h => by have := h.1.2.1; rw [HTL.out] at this; exact hri this)]
        rfl⟩
       go_wp2_with fail
       go_meet
       case rel => exact ⟨by rw [I2.out]; exact TK.out,D8.out⟩
     | true =>
      obtain ⟨hr0,hri⟩ : 0 < ref /\ ref <= i := of_decide_eq_true HBB.out
      have i2 : decide (ref <= i) = true := decide_eq_true hri
      obtain ⟨j,hj9⟩ : ∃ j,i - ref = j := ⟨_,rfl⟩
      have hji : j < i := by omega
      have jT : j < T.length := by rw [HTL.out]; exact hji
      obtain ⟨l,ch,htj⟩ : ∃ l ch,T[j] = (l,ch) := ⟨_,_,rfl⟩
      have o1 := D8.out.ownO
      have o2 := D8.out.ownC
      rw [LENS.out.1] at o1
      rw [LENS.out.2.1] at o2
      obtain ⟨go,rfl,eo⟩ := own_cell o1 hji
      obtain ⟨gc,rfl,ec⟩ := own_cell o2 hji
      obtain ⟨s1,d1,v1,v2,v3⟩ := D8.out.2.1.2 j (by rw [List.length_map]; exact jT)
      have et : (T.map (·.1))[j]'(by rw [List.length_map]; exact jT) = l := by rw [List.getElem_map,htj]
      rw [et] at v1 v2 v3
      have co1 : w8.cell? ⟨go,j,none⟩ = some (.slice s1 l.length d1) := eo.trans v1
      have cc1 : w8.cell? ⟨gc,j,none⟩ = some (.int .i64 (ch : Int)) := by
       rw [ec]
       unfold chV
       rw [List.getElem?_map,List.getElem?_eq_getElem jT,htj]
       rfl
      have hl9 : l.length <= 65536 := by
       have := HTN.out (T[j]) (List.getElem_mem jT)
       rw [htj] at this
       exact Nat.le_trans this hn
      have hch : ch <= 16 := by
       have := CHN.out (T[j]) (List.getElem_mem jT)
       rw [htj] at this
       exact Nat.le_trans this hdp
      have hris : Ris l := by
       have := HTO.out (T[j]) (List.getElem_mem jT)
       rw [htj] at this
       exact this
      have hdeg := hread_deg HHO.out hr0
      have TB : Hid (takenB b T deg ref = if 0 < l.length /\ l.length <= b.cap /\ 0 < deg /\ deg <= b.cap /\ ch < b.depth then some (l,ch + 1) else none) := Lib.hid (by
       have e9 : tkOf T ref = (l,ch) := by
        unfold tkOf
        rw [HTL.out,hj9,List.getD_eq_getElem?_getD,List.getElem?_eq_getElem jT,htj]
        rfl
       unfold takenB
       rw [if_pos hr0]
       unfold backB tkMay
       rw [e9]
       by_cases hm : 0 < l.length /\ l.length <= b.cap /\ 0 < deg /\ deg <= b.cap /\ ch < b.depth
       ·rw [if_pos hm,if_pos ⟨⟨hr0,by rw [HTL.out]; exact hri,hr3⟩,hm⟩]
        rfl
       ·rw [if_neg hm,if_neg (fun h => hm h.2)]
        rfl)
      have TK : Hid (∀ ok : Bool,(ok = true ↔ 0 < l.length /\ l.length <= b.cap /\ 0 < deg /\ deg <= b.cap /\ ch < b.depth) -> TkS b T deg ref gs (.slice s1 l.length d1) (.int .i64 ((ch : Int) + 1)) (.bool ok)) := Lib.hid (fun ok hok => ⟨ok,l,ch + 1,s1,d1,rfl,by rw [Int.natCast_add]; rfl,rfl,v2,v3,hris,.inl hr0,fun h => TB.out.trans (if_pos (hok.1 h)),fun h => TB.out.trans (if_neg (fun k => by have := hok.2 k; rw [h] at this; cases this))⟩)
      obtain ⟨ll,hll⟩ : ∃ z,l.length = z := ⟨_,rfl⟩
      rw [hll] at TK co1 hl9
      have q1 : IntKind.i64.wrap ((i : Int) - (ref : Int)) = (j : Int) := by rw [IntWalk.i64_in _ (by omega)]; omega
      have q2 : IntKind.i64.wrap ((ch : Int) + 1) = (ch : Int) + 1 := IntWalk.i64_in _ (by omega)
      obtain ⟨cp,hcp2⟩ : ∃ z,b.cap = z := ⟨_,rfl⟩
      obtain ⟨dp,hdp2⟩ : ∃ z,b.depth = z := ⟨_,rfl⟩
      rw [hcp2,hdp2] at TK
      rw [hcp2] at p4
      rw [hdp2] at p1
      clear o1 o2 eo ec v1 v2 v3 et htj hll hris TB hj9
      by_cases g0 : 0 < ll
      ·have t0 : decide ((0 : Int) < (ll : Int)) = true := decide_eq_true (by omega)
       have v0 : decide (0 < ll) = true := decide_eq_true g0
       by_cases g1 : ll <= cp
       ·have t1 : decide ((ll : Int) <= (cp : Int)) = true := decide_eq_true (by omega)
        have v1 : decide (ll <= cp) = true := decide_eq_true g1
        by_cases g2 : deg <= cp
        ·have t2 : decide ((deg : Int) <= (cp : Int)) = true := decide_eq_true (by omega)
         have v2 : decide (deg <= cp) = true := decide_eq_true g2
         by_cases g3 : ch < dp
         ·have t3 : decide ((ch : Int) + 1 <= (dp : Int)) = true := decide_eq_true (by omega)
          have R := Lib.hid (TK.out true ⟨fun _ => ⟨g0,g1,hdeg,g2,g3⟩,fun _ => rfl⟩)
          go_wp2_with fail
          go_meet
          case rel => exact ⟨R.out,D8.out⟩
         ·have t3 : decide ((ch : Int) + 1 <= (dp : Int)) = false := decide_eq_false (by omega)
          have R := Lib.hid (TK.out false ⟨fun h => (by cases h),fun h => absurd h.2.2.2.2 g3⟩)
          go_wp2_with fail
          go_meet
          case rel => exact ⟨R.out,D8.out⟩
        ·have t2 : decide ((deg : Int) <= (cp : Int)) = false := decide_eq_false (by omega)
         have v2 : decide (deg <= cp) = false := decide_eq_false g2
         have R := Lib.hid (TK.out false ⟨fun h => (by cases h),fun h => absurd h.2.2.2.1 g2⟩)
         go_wp2_with fail
         go_meet
         case rel => exact ⟨R.out,D8.out⟩
       ·have t1 : decide ((ll : Int) <= (cp : Int)) = false := decide_eq_false (by omega)
        have v1 : decide (ll <= cp) = false := decide_eq_false g1
        have R := Lib.hid (TK.out false ⟨fun h => (by cases h),fun h => absurd h.2.1 g1⟩)
        go_wp2_with fail
        go_meet
        case rel => exact ⟨R.out,D8.out⟩
      ·have t0 : decide ((0 : Int) < (ll : Int)) = false := decide_eq_false (by omega)
       have v0 : decide (0 < ll) = false := decide_eq_false g0
       have R := Lib.hid (TK.out false ⟨fun h => (by cases h),fun h => absurd h.1 g0⟩)
       go_wp2_with fail
       go_meet
       case rel => exact ⟨R.out,D8.out⟩
    case rest =>
    rename World => w9
    obtain ⟨⟨ok,l,ch,s1,d1,rfl,rfl,rfl,hld,hst,hris,hr0,hok,hno⟩,h9⟩ := hcut
    have D9 := Lib.hid h9
    have OK1 := Lib.hid hok
    have NO1 := Lib.hid hno
    have HRI := Lib.hid hris
    have HST := Lib.hid hst
    obtain ⟨p0,p1,p2,p3,p4,u1,u2⟩ := PC.out _ _ _ _ (fun q hq => List.mem_append_right _ (HK2.out q hq)) h9.1
    obtain ⟨h0,h1⟩ := HC.out _ _ _ _ (fun q hq => List.mem_append_right _ hq) h9.1
    have we : IntKind.i64.wrap (E : Int) = (E : Int) := IntWalk.i64_in _ (by omega)
    obtain ⟨O2,hO2⟩ : ∃ o,dec B T.length n deg l ref b.p a1 = o := ⟨_,rfl⟩
    have HO2 := Lib.hid hO2
    clear h9 hok hno hst D8 HBB
    cases ok with
    | false =>
     have NB : Hid (readB b n B f (i + 1) = none) := Lib.hid (by unfold readB nextB; rw [HRD.out,Option.bind_some]; dsimp only; rw [HHO.out,Option.bind_some]; dsimp only; rw [NO1.out rfl]; rfl)
     have FN := Lib.hid (NO.out (i + 1) _ _ _ _ (by omega) NB.out (fun q hq => List.mem_append_right _ (HK2.out q hq)) D9.out.1)
     clear hO2 hris
     go_wp2_with fail
     exact bodyPost_ret (v := .tuple #[.slice none 0 0,.slice none 0 0,.int .i64 4]) (by simp [results,Tryz.results34,go_sem]) rfl FN.out
    | true =>
     have TB := Lib.hid (OK1.out rfl)
     have SD : Hid (∀ W', DBs w rd rb aB dB B a1 T (.slice so i co) (.slice sc i cc) (.slice sa (i + 1) ca) (rplaces b n B f (i + 1)) gs V K2 W' -> Calls Tryz.prog 17 #[.pointer (some ⟨rb,0,none⟩),.int .i64 (i : Int),.int .i64 (n : Int),.agg #[.int .i64 (deg : Int),.int .i64 (ref : Int)],.slice s1 l.length d1,.agg #[.int .i64 (b.p.win : Int),.int .i64 (b.p.itv : Int),.int .i64 (b.p.zet : Int)]] W' (DDecR O2 w none rd rb aB dB B a1 [⟨34,.slice so i co,V⟩,⟨3,.slice sc i cc,chV T⟩,⟨97,.slice sa (i + 1) ca,u64V (rplaces b n B f (i + 1))⟩] (gs ++ K2))) := Lib.hid (fun W' h => by
      have h2 := DD.out W' a1 _ _ h.1 i deg ref (by omega) hr2 hr3 s1 l d1 hld HRI.out hr0 (fun W2 _ hq => HST.out W2 (fun q hq' => hq q (List.mem_append_left _ hq')))
      rw [<- HO2.out,HTL.out]
      exact h2)
     have MF : Hid (∀ W', DBs w rd rb aB dB B a1 T (.slice so i co) (.slice sc i cc) (.slice sa (i + 1) ca) (rplaces b n B f (i + 1)) gs V K2 W' -> W'.cell? ⟨hb,0,none⟩ = some (.int .i64 (deg : Int)) /\ W'.cell? ⟨hb,1,none⟩ = some (.int .i64 (ref : Int)) /\ W'.cell? ⟨pb,0,none⟩ = some (.int .i64 (b.p.win : Int)) /\ W'.cell? ⟨pb,1,none⟩ = some (.int .i64 (b.depth : Int)) /\ W'.cell? ⟨pb,2,none⟩ = some (.int .i64 (b.p.itv : Int)) /\ W'.cell? ⟨pb,3,none⟩ = some (.int .i64 (b.p.zet : Int)) /\ W'.cell? ⟨pb,4,none⟩ = some (.int .i64 (b.cap : Int))) := Lib.hid (fun W' h => by
      obtain ⟨p0,p1,p2,p3,p4,-⟩ := PC.out _ _ _ _ (fun q hq => List.mem_append_right _ (HK2.out q hq)) h.1
      obtain ⟨h0,h1⟩ := HC.out _ _ _ _ (fun q hq => List.mem_append_right _ hq) h.1
      exact ⟨h0,h1,p0,p1,p2,p3,p4⟩)
     have MF2 : Hid (∀ e W', DDecR O2 w none rd rb aB dB B a1 [⟨34,.slice so i co,V⟩,⟨3,.slice sc i cc,chV T⟩,⟨97,.slice sa (i + 1) ca,u64V (rplaces b n B f (i + 1))⟩] (gs ++ K2) e W' -> W'.cell? ⟨hb,0,none⟩ = some (.int .i64 (deg : Int)) /\ W'.cell? ⟨hb,1,none⟩ = some (.int .i64 (ref : Int)) /\ W'.cell? ⟨pb,0,none⟩ = some (.int .i64 (b.p.win : Int)) /\ W'.cell? ⟨pb,1,none⟩ = some (.int .i64 (b.depth : Int)) /\ W'.cell? ⟨pb,2,none⟩ = some (.int .i64 (b.p.itv : Int)) /\ W'.cell? ⟨pb,3,none⟩ = some (.int .i64 (b.p.zet : Int)) /\ W'.cell? ⟨pb,4,none⟩ = some (.int .i64 (b.cap : Int))) := Lib.hid (fun e W' h => by
      obtain ⟨p', rs', h⟩ := h.any
      obtain ⟨p0,p1,p2,p3,p4,-⟩ := PC.out _ _ _ _ (fun q hq => List.mem_append_right _ (HK2.out q hq)) h
      obtain ⟨h0,h1⟩ := HC.out _ _ _ _ (fun q hq => List.mem_append_right _ hq) h
      exact ⟨h0,h1,p0,p1,p2,p3,p4⟩)
     obtain ⟨ll,hll⟩ : ∃ z,l.length = z := ⟨_,rfl⟩
     rw [hll] at SD ⊢
     clear hO2 hris hll u1 u2 OK1 NO1 MF2
     have MF2 : Hid (∀ p' rs' W', DRR w none rd rb aB dB B p' rs' (gs ++ K2) W' -> W'.cell? ⟨hb,0,none⟩ = some (.int .i64 (deg : Int)) /\ W'.cell? ⟨hb,1,none⟩ = some (.int .i64 (ref : Int)) /\ W'.cell? ⟨pb,0,none⟩ = some (.int .i64 (b.p.win : Int)) /\ W'.cell? ⟨pb,1,none⟩ = some (.int .i64 (b.depth : Int)) /\ W'.cell? ⟨pb,2,none⟩ = some (.int .i64 (b.p.itv : Int)) /\ W'.cell? ⟨pb,3,none⟩ = some (.int .i64 (b.p.zet : Int)) /\ W'.cell? ⟨pb,4,none⟩ = some (.int .i64 (b.cap : Int))) := Lib.hid (fun p' rs' W' h => by
      obtain ⟨p0,p1,p2,p3,p4,-⟩ := PC.out _ _ _ _ (fun q hq => List.mem_append_right _ (HK2.out q hq)) h
      obtain ⟨h0,h1⟩ := HC.out _ _ _ _ (fun q hq => List.mem_append_right _ hq) h
      exact ⟨h0,h1,p0,p1,p2,p3,p4⟩)
     clear h0 h1 p0 p1 p2 p3 p4
     obtain ⟨h0,h1,p0,p1,p2,p3,p4⟩ := MF.out _ D9.out
     go_upto_region 21 with fail
     cases O2 with
     | none =>
      have SD2 : Hid (∀ W', DBs w rd rb aB dB B a1 T (.slice so i co) (.slice sc i cc) (.slice sa (i + 1) ca) (rplaces b n B f (i + 1)) gs V K2 W' -> Calls Tryz.prog 17 #[.pointer (some ⟨rb,0,none⟩),.int .i64 (i : Int),.int .i64 (n : Int),.agg #[.int .i64 (deg : Int),.int .i64 (ref : Int)],.slice s1 ll d1,.agg #[.int .i64 (b.p.win : Int),.int .i64 (b.p.itv : Int),.int .i64 (b.p.zet : Int)]] W' (DDecR none w none rd rb aB dB B a1 [⟨34,.slice so i co,V⟩,⟨3,.slice sc i cc,chV T⟩,⟨97,.slice sa (i + 1) ca,u64V (rplaces b n B f (i + 1))⟩] (gs ++ K2))) := Lib.hid SD.out
      unfold DDecR at SD2
      dsimp only at SD2
      go_region_held3 (fun W' => W'.cell? ⟨hb,0,none⟩ = some (.int .i64 (deg : Int)) /\ W'.cell? ⟨hb,1,none⟩ = some (.int .i64 (ref : Int)) /\ W'.cell? ⟨pb,0,none⟩ = some (.int .i64 (b.p.win : Int)) /\ W'.cell? ⟨pb,1,none⟩ = some (.int .i64 (b.depth : Int)) /\ W'.cell? ⟨pb,2,none⟩ = some (.int .i64 (b.p.itv : Int)) /\ W'.cell? ⟨pb,3,none⟩ = some (.int .i64 (b.p.zet : Int)) /\ W'.cell? ⟨pb,4,none⟩ = some (.int .i64 (b.cap : Int)))
       (first | exact MF.out _ D9.out | exact MF.out _ D9.out.drew | exact MF.out _ (by assumption) | exact MF.out _ (DBs.drew (by assumption)) | exact MF2.out _ _ _ (by assumption))
       (first
        | (go_at_call 64; (with_reducible refine (LI.out _).mono ?_); rintro e w10 ⟨rfl,k5⟩; have h10 := (by first | exact D9.out.drew.next k5 | exact D9.out.next k5 : DBs w rd rb aB dB B a1 T (.slice so i co) (.slice sc i cc) (.slice sa (i + 1) ca) (rplaces b n B f (i + 1)) gs V K2 w10))
        | (go_at_call 17; (with_reducible refine (SD2.out _ (by first | exact h10 | exact h10.drew)).mono ?_); rintro e w11 ⟨rfl,h11⟩))
      have D11 := Lib.hid (D9.out.moved h11)
      have NB : Hid (readB b n B f (i + 1) = none) := Lib.hid (by unfold readB nextB; rw [HRD.out,Option.bind_some]; dsimp only; rw [HHO.out,Option.bind_some]; dsimp only; rw [TB.out,Option.bind_some]; dsimp only; rw [HO2.out]; rfl)
      have FN := Lib.hid (NO.out (i + 1) _ _ _ _ (by omega) NB.out (fun q hq => List.mem_append_right _ (HK2.out q hq)) D11.out.1)
      clear h10 k5 h0 h1 p0 p1 p2 p3 p4
      obtain ⟨p0,p1,p2,p3,p4,u1,u2⟩ := PC.out _ _ _ _ (fun q hq => List.mem_append_right _ (HK2.out q hq)) h11
      clear h11
      go_wp2_with fail
      exact bodyPost_ret (v := .tuple #[.slice none 0 0,.slice none 0 0,.int .i64 4]) (by simp [results,Tryz.results34,go_sem]) rfl FN.out
     | some q =>
      obtain ⟨l2,a2⟩ := q
      have SD2 : Hid (∀ W', DBs w rd rb aB dB B a1 T (.slice so i co) (.slice sc i cc) (.slice sa (i + 1) ca) (rplaces b n B f (i + 1)) gs V K2 W' -> Calls Tryz.prog 17 #[.pointer (some ⟨rb,0,none⟩),.int .i64 (i : Int),.int .i64 (n : Int),.agg #[.int .i64 (deg : Int),.int .i64 (ref : Int)],.slice s1 ll d1,.agg #[.int .i64 (b.p.win : Int),.int .i64 (b.p.itv : Int),.int .i64 (b.p.zet : Int)]] W' (DDecR (some (l2,a2)) w none rd rb aB dB B a1 [⟨34,.slice so i co,V⟩,⟨3,.slice sc i cc,chV T⟩,⟨97,.slice sa (i + 1) ca,u64V (rplaces b n B f (i + 1))⟩] (gs ++ K2))) := Lib.hid SD.out
      unfold DDecR at SD2
      dsimp only at SD2
      go_region_held3 (fun W' => W'.cell? ⟨hb,0,none⟩ = some (.int .i64 (deg : Int)) /\ W'.cell? ⟨hb,1,none⟩ = some (.int .i64 (ref : Int)) /\ W'.cell? ⟨pb,0,none⟩ = some (.int .i64 (b.p.win : Int)) /\ W'.cell? ⟨pb,1,none⟩ = some (.int .i64 (b.depth : Int)) /\ W'.cell? ⟨pb,2,none⟩ = some (.int .i64 (b.p.itv : Int)) /\ W'.cell? ⟨pb,3,none⟩ = some (.int .i64 (b.p.zet : Int)) /\ W'.cell? ⟨pb,4,none⟩ = some (.int .i64 (b.cap : Int)))
       (first | exact MF.out _ D9.out | exact MF.out _ D9.out.drew | exact MF.out _ (by assumption) | exact MF.out _ (DBs.drew (by assumption)) | exact MF2.out _ _ _ (by assumption))
       (first
        | (go_at_call 64; (with_reducible refine (LI.out _).mono ?_); rintro e w10 ⟨rfl,k5⟩; have h10 := (by first | exact D9.out.drew.next k5 | exact D9.out.next k5 : DBs w rd rb aB dB B a1 T (.slice so i co) (.slice sc i cc) (.slice sa (i + 1) ca) (rplaces b n B f (i + 1)) gs V K2 w10))
        | (go_at_call 17; (with_reducible refine (SD2.out _ (by first | exact h10 | exact h10.drew)).mono ?_); rintro e w11 ⟨v,rfl,h11⟩))
      have NX : Hid (nextB b T n B a' = some ((l2,ch),a2)) := Lib.hid (by unfold nextB; rw [HHO.out,Option.bind_some]; dsimp only; rw [TB.out,Option.bind_some]; dsimp only; rw [HO2.out]; rfl)
      obtain ⟨hris,hln,hlv,haa2⟩ := nextB_some hbp hn ha' NX.out
      dsimp only at hris hln hlv haa2 h11
      obtain ⟨gs2,s2,d2,rfl,hd2,hst2,h12⟩ := D9.out.told h11 (by omega) (fun x hx => by have := hlv x hx; omega)
      have D11 := Lib.hid h12
      have HST2 := Lib.hid (And.intro hd2 hst2)
      have ha2B : a2 <= B.length := h12.1.2.2.2.1
      have hE2 : edges ((T ++ [(l2,ch)]).map (·.1)) = E + l2.length := by rw [List.map_append,List.map_singleton,edges_snoc,HEE.out]
      have HE2 := Lib.hid hE2
      have hch9 : ch <= 16 := Nat.le_trans (takenB_chain TB.out) hdp
      obtain ⟨m,hm⟩ : ∃ z,l2.length = z := ⟨_,rfl⟩
      have HM := Lib.hid hm
      have RD2 : Hid (readB b n B f (i + 1) = if E + m <= 1048576 then some (T ++ [(l2,ch)],a2) else none) := Lib.hid (by
       unfold readB
       rw [HRD.out,Option.bind_some]
       dsimp only
       rw [NX.out,Option.bind_some]
       dsimp only
       rw [HE2.out,HM.out])
      rw [hm] at hln hd2 ⊢
      have wem : IntKind.i64.wrap ((E : Int) + (m : Int)) = (E : Int) + (m : Int) := IntWalk.i64_in _ (by omega)
      clear h10 k5 h0 h1 p0 p1 p2 p3 p4 hE2 hris hlv hst2 hm h11 SD SD2 MF MF2
      obtain ⟨p0,p1,p2,p3,p4,u1,u2⟩ := PC.out _ _ _ _ (fun q hq => List.mem_append_right _ (HK2.out q hq)) h12.1
      clear h12
      by_cases hE5 : E + m <= 1048576
      ·have i2 : decide ((1048576 : Int) < (E : Int) + (m : Int)) = false := decide_eq_false (by omega)
       have C5 : Hid (i + 1 <= maxLen) := Lib.hid (by simp only [maxLen]; omega)
       have C6 : Hid ((i + 1) * 24 <= 140737488355328) := Lib.hid (by omega)
       have C7 : Hid (i + 1 + 1 <= maxLen) := Lib.hid (by simp only [maxLen]; omega)
       have C8 : Hid ((i + 1 + 1) * 8 <= 140737488355328) := Lib.hid (by omega)
       have C9 : Hid ((i + 1) * 8 <= 140737488355328) := Lib.hid (by omega)
       have OG : Hid ((w11.alloc (.cells #[.slice s2 m d2] 34)).ownsRow 0 34 1 (.slice so i co) i V) := Lib.hid (by
        have h := D11.out.ownO.alloc (.cells #[.slice s2 m d2] 34)
        rw [LENS.out.1] at h
        exact h)
       go_wp2_with (at_builtin; refine wpList_append_at _ rfl _ _ 54 rfl 0 34 g0 _ 1 24 Tryz.underlying54 hg hg0 hg1 hg2 rfl (by decide) _ i _ rfl OG.out ⟨w11.heap.size,0,none⟩ 1 1 [.slice s2 m d2] rfl rfl (cell_one_new _ _ _) (fun u hu => by simp at hu; subst hu; rfl) C5.out C6.out (Nat.zero_le _) (by decide) ?_)
       intro v7 w12 own7 hg7 hw7
       have h12 := (D11.out.next ((Below.refl _ _).alloc (Nat.le_refl _) (.cells #[.slice s2 m d2] 34))).pushO (vO' := v7) (l := l2) (s := s2) (d := d2) (by rw [LENS.out.1,HM.out]; exact own7) hg7 (by simpa using hw7)
       have D12 := Lib.hid h12
       have OC : Hid ((w12.alloc (.cells #[.int .i64 (ch : Int)] 3)).ownsRow 0 3 1 (.slice sc i cc) i (chV T)) := Lib.hid (by
        have h := h12.own3.2.1
        unfold Rw.owned at h
        dsimp only at h
        rw [LENS.out.2.1] at h
        exact h.alloc _)
       clear own7 hg7 hw7 h12 OG u1 u2 p0 p1 p2 p3 p4
       go_wp2_with (at_builtin; refine wpList_append_at _ rfl _ _ 83 rfl 0 3 i0 _ 1 8 Tryz.underlying83 hi hi0 hi1 hi2 rfl (by decide) _ i _ rfl OC.out ⟨w12.heap.size,0,none⟩ 1 1 [.int .i64 (ch : Int)] rfl rfl (cell_one_new _ _ _) (fun u hu => by simp at hu; subst hu; rfl) C5.out C9.out (Nat.zero_le _) (by decide) ?_)
       intro v8 w13 own8 hg8 hw8
       have h13 := (D12.out.next ((Below.refl _ _).alloc (Nat.le_refl _) (.cells #[.int .i64 (ch : Int)] 3))).pushC (v' := v8) (x := .int .i64 (ch : Int)) (by rw [LENS.out.2.1]; exact own8) hg8 (by simpa using hw8)
       have D13 := Lib.hid h13
       obtain ⟨z,hz⟩ : ∃ z,a2 - f = z := ⟨_,rfl⟩
       have HZ := Lib.hid hz
       have wz : IntKind.i64.wrap ((a2 : Int) - (f : Int)) = (z : Int) := by rw [IntWalk.i64_in _ (by omega)]; omega
       have wzu : IntKind.u64.wrap (z : Int) = (z : Int) := IntWalk.u64_in _ (by omega)
       obtain ⟨-,u1,-⟩ := h13.cells
       have OA : Hid ((w13.alloc (.cells #[.int .u64 (z : Int)] 97)).ownsRow 0 97 1 (.slice sa (i + 1) ca) (i + 1) (u64V (rplaces b n B f (i + 1)))) := Lib.hid (by
        have h := h13.own3.2.2
        unfold Rw.owned at h
        dsimp only at h
        rw [show (u64V (rplaces b n B f (i + 1))).length = i + 1 by unfold u64V; rw [List.length_map]; exact LENS.out.2.2] at h
        exact h.alloc _)
       clear own8 hg8 hw8 h13 OC D12 hz
       go_wp2_with (at_builtin; refine wpList_append_at _ rfl _ _ 58 rfl 0 97 j0 _ 1 8 Tryz.underlying58 hj hj0 hj1 hj2 rfl (by decide) _ (i + 1) _ rfl OA.out ⟨w13.heap.size,0,none⟩ 1 1 [.int .u64 (z : Int)] rfl rfl (cell_one_new _ _ _) (fun u hu => by simp at hu; subst hu; rfl) C7.out C8.out (Nat.zero_le _) (by decide) ?_)
       intro v9 w14 own9 hg9 hw9
       have h14 := (D13.out.next ((Below.refl _ _).alloc (Nat.le_refl _) (.cells #[.int .u64 (z : Int)] 97))).pushA (v' := v9) (x := .int .u64 (z : Int)) (by rw [show (u64V (rplaces b n B f (i + 1))).length = i + 1 by unfold u64V; rw [List.length_map]; exact LENS.out.2.2]; exact own9) hg9 (by simpa using hw9)
       have D14 : Hid (DBs w rd rb aB dB B a2 (T ++ [(l2,ch)]) v7 v8 v9 (rplaces b n B f (i + 1 + 1)) gs2 (V ++ [.slice s2 l2.length d2]) K1 w14) := Lib.hid (by
        have e1 : u64V (rplaces b n B f (i + 1 + 1)) = u64V (rplaces b n B f (i + 1)) ++ [.int .u64 (z : Int)] := by
         rw [rplaces_succ]
         unfold rplace
         rw [RD2.out,if_pos hE5]
         dsimp only
         rw [HZ.out]
         unfold u64V
         rw [List.map_append]
         rfl
        refine DBs.less (K := K2) ⟨?_,?_,D11.out.2.2⟩ HK2.out BS1.out
        ·rw [e1,chV_snoc]
         exact h14
        ·rw [List.map_append]
         exact D11.out.2.1.snoc l2 s2 d2 HST2.out.1 HST2.out.2)
       clear own9 hg9 hw9 h14 OA D13 wz wzu u1
       go_wp2_with fail
       go_roundw
       case rel => exact ⟨i + 1,T ++ [(l2,ch)],a2,gs2,V ++ [.slice s2 l2.length d2],by go_num,by omega,by rw [RD2.out,if_pos hE5],by rw [HE2.out,HM.out]; go_num,D14.out⟩
       case measure => simp [intOf]; omega
      ·have i2 : decide ((1048576 : Int) < (E : Int) + (m : Int)) = true := decide_eq_true (by omega)
       have FN := Lib.hid (NO.out (i + 1) _ _ _ _ (by omega) (by rw [RD2.out,if_neg hE5]) (fun q hq => List.mem_append_right _ (HK2.out q hq)) D11.out.1)
       go_wp2_with fail
       exact bodyPost_ret (v := .tuple #[.slice none 0 0,.slice none 0 0,.int .i64 4]) (by simp [results,Tryz.results34,go_sem]) rfl FN.out
  · --B
   have hin2 : i = n := by omega
   have i1 : decide ((i : Int) < (n : Int)) = false := decide_eq_false (by omega)
   have FIN : Hid (DbP (rplaces b n B f (n + 1)) (readB b n B f n) w rd rb aB dB B f K (.returned (.tuple #[.slice so i co,.slice sa (i + 1) ca,.int .i64 0])) w4) := Lib.hid (by
    subst hin2
    rw [HRD.out]
    have hG := HD.out.2.1
    have hap := HD.out.2.2
    obtain ⟨⟨kg,q1,q2,q3,kc,q4,q5,q6,ka,q7,q8,q9,q10⟩,q11,q12,q13⟩ := HD.out.1
    dsimp only at q1 q3 q4 q6 q7 q9
    have o1 : w4.ownsRow 0 34 1 (.slice so V.length co) V.length V := q2
    have o3 : w4.ownsRow 0 97 1 (.slice sa (rplaces b i B f (i + 1)).length ca) (rplaces b i B f (i + 1)).length (u64V (rplaces b i B f (i + 1))) := by
     have h : w4.ownsRow 0 97 1 (.slice sa (rplaces b i B f (i + 1)).length ca) (u64V (rplaces b i B f (i + 1))).length (u64V (rplaces b i B f (i + 1))) := q8
     rw [show (u64V (rplaces b i B f (i + 1))).length = (rplaces b i B f (i + 1)).length by unfold u64V; rw [List.length_map]] at h
     exact h
    obtain ⟨sg,dg,e1,e2,e3⟩ := own_stG o1 q1.1 (fun p hp => FS.row q10 (b := p.1) (o := p.2) (by simp only [List.mem_append]; exact .inr (.inr (.inl hp)))) hG (by rw [List.length_map,HTL.out]; omega)
    obtain ⟨sd,dd,e4,e5,e6⟩ := own_stU o3 q7.1 (fun p hp => FS.row q10 (b := p.1) (o := p.2) (List.mem_append_left _ hp)) (by rw [LENS.out.2.2]; omega)
    injection e1 with e1a e1b e1c
    injection e4 with e4a e4b e4c
    subst e1a e1c e4a e4c
    refine ⟨so,co,sa,ca,kg ++ (ka ++ gs),?_,?_,e5,fun W' hW' => e3 W' (fun p hp => hW' p ?_),fun W' hW' => e6 W' (fun p hp => hW' p ?_),fun p hp q' hq' => ?_,FS.sub q10 (fun q hq => ?_),fun q hq => ?_,HBS.out.more (fun q hq => List.mem_append_right _ hq),q13⟩
    ·rw [HTL.out,LENS.out.2.2]
    ·rw [List.length_map] at e2
     exact e2
    ·rcases List.mem_append.1 hp with hp | hp
     ·exact List.mem_append_left _ hp
     ·exact List.mem_append_right _ (List.mem_append_right _ hp)
    ·exact List.mem_append_right _ (List.mem_append_left _ hp)
    ·have hq1 := HK1.out q' hq'
     rcases List.mem_append.1 hp with hp | hp
     ·exact fun e => q3 q' (List.mem_cons_of_mem _ (List.mem_append_right _ hq1)) (by rw [<- e]; exact q1.2 p hp)
     ·rcases List.mem_append.1 hp with hp | hp
      ·exact fun e => q9 q' (List.mem_append_right _ (List.mem_append_right _ (List.mem_cons_of_mem _ (List.mem_append_right _ hq1)))) (by rw [<- e]; exact q7.2 p hp)
      ·exact hap p hp q' hq1
    ·simp only [List.mem_cons,List.mem_append] at hq ⊢
     rcases hq with hq | (hq | hq | hq) | hq
     ·exact .inr (.inr (.inr (.inl hq)))
     ·exact .inr (.inr (.inl hq))
     ·exact .inl hq
     ·exact .inr (.inr (.inr (.inr (.inl hq))))
     ·exact .inr (.inr (.inr (.inr (.inr (HK1.out q hq)))))
    ·rcases List.mem_append.1 hq with hq | hq
     ·rcases List.mem_append.1 hq with hq | hq
      ·exact fun e => q3 (rb,_) (List.mem_cons_self ..) (by show some rb = _; rw [<- e]; exact q1.2 q hq)
      ·rcases List.mem_append.1 hq with hq | hq
       ·exact fun e => q9 (rb,_) (List.mem_append_right _ (List.mem_append_right _ (List.mem_cons_self ..))) (by show some rb = _; rw [<- e]; exact q7.2 q hq)
       ·exact q11 q (List.mem_append_left _ hq)
     ·exact q11 q (List.mem_append_right _ (HK1.out q hq)))
   clear hin2
   go_wp2_with fail
   exact bodyPost_ret (v := .tuple #[.slice so i co,.slice sa (i + 1) ca,.int .i64 0]) (by simp [results,Tryz.results34,go_sem]) rfl FIN.out
theorem bp_nat2 {pw pd pi pz pc : Int} (h : BpOk pw pd pi pz pc) : ∃ b : Bp, b.p.ok ∧ pw = (b.p.win : Int) ∧ pd = (b.depth : Int) ∧ pi = (b.p.itv : Int) ∧ pz = (b.p.zet : Int) ∧ pc = (b.cap : Int) := by
 obtain ⟨⟨h1,h2,h3,h4,h5⟩,h6,h7,h8,h9⟩ := h
 refine ⟨⟨⟨pw.toNat,pi.toNat,pz.toNat⟩,pd.toNat,pc.toNat⟩,?_,?_,?_,?_,?_,?_⟩
 ·unfold Pr.ok
  dsimp only
  omega
 all_goals dsimp only; omega
theorem nextB_end {b : Bp} (hb : b.p.ok) {T : List Tk} {n a : Nat} {B : Bits} {q : Tk × Nat} (ha : a ≤ B.length) (h : nextB b T n B a = some q) : q.2 ≤ B.length := by
 unfold nextB at h
 obtain ⟨⟨deg,ref,a1⟩,hh,h⟩ := Option.bind_eq_some_iff.1 h
 obtain ⟨⟨byL,ch⟩,ht,h⟩ := Option.bind_eq_some_iff.1 h
 obtain ⟨⟨l,a2⟩,hdc,h⟩ := Option.bind_eq_some_iff.1 h
 injection h with h
 subst h
 exact dec_end hb (hread_end hh ha) hdc
theorem readB_end {b : Bp} (hb : b.p.ok) {n f : Nat} {B : Bits} (hn : n ≤ 65536) (hf : f ≤ B.length) : ∀ k s, readB b n B f k = some s → s.2 ≤ B.length
 | 0,s,h => by
  injection h with h
  subst h
  exact hf
 | k + 1,s,h => by
  unfold readB at h
  obtain ⟨s0,h0,h⟩ := Option.bind_eq_some_iff.1 h
  obtain ⟨q,hq,h⟩ := Option.bind_eq_some_iff.1 h
  split at h
  ·injection h with h
   subst h
   exact nextB_end hb (readB_end hb hn hf k s0 h0) hq
  ·cases h
set_option maxRecDepth 100000 in
set_option maxHeartbeats 3200000 in
theorem bdec_no (pw pd pi pz pc n : Int) (no : ¬ (BpOk pw pd pi pz pc ∧ 0 ≤ n ∧ n ≤ 65536)) (rb : Nat) (W : World) :
  Calls Tryz.prog 33 #[.pointer (some ⟨rb,0,none⟩),.int .i64 n,bpV pw pd pi pz pc] W fun e w' => e = .returned (.tuple #[.slice none 0 0,.slice none 0 0,.int .i64 1]) /\ Below W.heap.size W w' := by
 have CK := Lib.hid (fun W => bcheck_any pw pd pi pz pc W)
 unfold bpV at CK ⊢
 have K0 : Hid (Below W.heap.size W (W.alloc (.cells #[.int .i64 pw,.int .i64 pd,.int .i64 pi,.int .i64 pz,.int .i64 pc] 61))) := Lib.hid ((Below.refl _ _).alloc (Nat.le_refl _) _)
 by_cases hp : BpOk pw pd pi pz pc
 ·rw [if_pos hp] at CK
  by_cases hn0 : 0 <= n
  ·have hn9 : 65536 < n := by
    refine Classical.byContradiction fun h => no ⟨hp,hn0,by omega⟩
   clear no
   go_enter Tryz.func33,Tryz.ntmps33
   go_wp2_with fail
   with_reducible refine (CK.out _).mono ?_
   rintro e w1 ⟨rfl,k1⟩
   have K1 := Lib.hid (K0.out.trans (k1.mono K0.out.size))
   clear k1
   go_wp2_with fail
   exact bodyPost_ret (v := .tuple #[.slice none 0 0,.slice none 0 0,.int .i64 1]) (by simp [results,Tryz.results33,go_sem]) rfl ⟨rfl,K1.out⟩
  ·have hn9 : n < 0 := by omega
   clear no
   go_enter Tryz.func33,Tryz.ntmps33
   go_wp2_with fail
   with_reducible refine (CK.out _).mono ?_
   rintro e w1 ⟨rfl,k1⟩
   have K1 := Lib.hid (K0.out.trans (k1.mono K0.out.size))
   clear k1
   go_wp2_with fail
   exact bodyPost_ret (v := .tuple #[.slice none 0 0,.slice none 0 0,.int .i64 1]) (by simp [results,Tryz.results33,go_sem]) rfl ⟨rfl,K1.out⟩
 ·rw [if_neg hp] at CK
  clear no
  go_enter Tryz.func33,Tryz.ntmps33
  go_wp2_with fail
  with_reducible refine (CK.out _).mono ?_
  rintro e w1 ⟨rfl,k1⟩
  have K1 := Lib.hid (K0.out.trans (k1.mono K0.out.size))
  clear k1
  go_wp2_with fail
  exact bodyPost_ret (v := .tuple #[.slice none 0 0,.slice none 0 0,.int .i64 1]) (by simp [results,Tryz.results33,go_sem]) rfl ⟨rfl,K1.out⟩
set_option maxRecDepth 100000 in
set_option maxHeartbeats 3200000 in
theorem dbdec_no (pw pd pi pz pc n : Int) (no : ¬ (BpOk pw pd pi pz pc ∧ 0 ≤ n ∧ n ≤ 65536)) (rb : Nat) (W : World) :
  Calls Tryz.prog 34 #[.pointer (some ⟨rb,0,none⟩),.int .i64 n,bpV pw pd pi pz pc] W fun e w' => e = .returned (.tuple #[.slice none 0 0,.slice none 0 0,.int .i64 1]) /\ Below W.heap.size W w' := by
 have CK := Lib.hid (fun W => dbcheck_any pw pd pi pz pc W)
 unfold bpV at CK ⊢
 have K0 : Hid (Below W.heap.size W (W.alloc (.cells #[.int .i64 pw,.int .i64 pd,.int .i64 pi,.int .i64 pz,.int .i64 pc] 56))) := Lib.hid ((Below.refl _ _).alloc (Nat.le_refl _) _)
 by_cases hp : BpOk pw pd pi pz pc
 ·rw [if_pos hp] at CK
  by_cases hn0 : 0 <= n
  ·have hn9 : 65536 < n := by
    refine Classical.byContradiction fun h => no ⟨hp,hn0,by omega⟩
   clear no
   go_enter Tryz.func34,Tryz.ntmps34
   go_wp2_with fail
   with_reducible refine (CK.out _).mono ?_
   rintro e w1 ⟨rfl,k1⟩
   have K1 := Lib.hid (K0.out.trans (k1.mono K0.out.size))
   clear k1
   go_wp2_with fail
   exact bodyPost_ret (v := .tuple #[.slice none 0 0,.slice none 0 0,.int .i64 1]) (by simp [results,Tryz.results34,go_sem]) rfl ⟨rfl,K1.out⟩
  ·have hn9 : n < 0 := by omega
   clear no
   go_enter Tryz.func34,Tryz.ntmps34
   go_wp2_with fail
   with_reducible refine (CK.out _).mono ?_
   rintro e w1 ⟨rfl,k1⟩
   have K1 := Lib.hid (K0.out.trans (k1.mono K0.out.size))
   clear k1
   go_wp2_with fail
   exact bodyPost_ret (v := .tuple #[.slice none 0 0,.slice none 0 0,.int .i64 1]) (by simp [results,Tryz.results34,go_sem]) rfl ⟨rfl,K1.out⟩
 ·rw [if_neg hp] at CK
  clear no
  go_enter Tryz.func34,Tryz.ntmps34
  go_wp2_with fail
  with_reducible refine (CK.out _).mono ?_
  rintro e w1 ⟨rfl,k1⟩
  have K1 := Lib.hid (K0.out.trans (k1.mono K0.out.size))
  clear k1
  go_wp2_with fail
  exact bodyPost_ret (v := .tuple #[.slice none 0 0,.slice none 0 0,.int .i64 1]) (by simp [results,Tryz.results34,go_sem]) rfl ⟨rfl,K1.out⟩
section
variable {w : World} {pb qb dB a : Nat} {s : ByteArray} {aB : Option Addr} {B : Bits}
theorem both_bdec (hG : GL w) (hB : unpack (nats s) = B) (ha : a ≤ B.length) (pw pd pi pz pc N : Int) :
  ∃ (G : List (List Nat)) (A : List Nat) (e : Int) (a' : Nat),a' <= B.length /\ G.length <= 65536 /\ (∀ l ∈ G,l.length <= 65536) /\
   (∀ K W p,DRd w none (some (pb,s,a)) qb aB dB B p K W -> Calls Tryz.prog 33 #[.pointer (some ⟨pb,0,none⟩),.int .i64 N,bpV pw pd pi pz pc] W fun en w' =>
    ∃ sg dg sa da kx,en = .returned (.tuple #[.slice sg G.length dg,.slice sa A.length da,.int .i64 e]) /\ StG kx sg G /\ StW kx sg G /\ StU kx sa A /\ (∀ q ∈ kx,W.heap.size <= q.1) /\ DRd w none (some (pb,s,a')) qb aB dB B p (kx ++ K) w') /\
   ∀ K W rd,DRd w none rd qb aB dB B a K W -> Calls Tryz.prog 34 #[.pointer (some ⟨qb,0,none⟩),.int .i64 N,bpV pw pd pi pz pc] W fun en w' =>
    ∃ sg dg sa da kx,en = .returned (.tuple #[.slice sg G.length dg,.slice sa A.length da,.int .i64 e]) /\ StG kx sg G /\ StU kx sa A /\ (∀ q ∈ kx,∀ q' ∈ K,q.1 ≠ q'.1) /\ DRd w none rd qb aB dB B a' (kx ++ K) w' := by
 have nilG : StG [] none [] := fun W _ => ⟨Nat.zero_le _,fun i hi => by cases hi⟩
 have nilW : StW [] none [] := fun W _ i hi => by cases hi
 have nilU : StU [] none [] := fun W _ => ⟨Nat.zero_le _,fun i hi => by cases hi⟩
 by_cases ok : BpOk pw pd pi pz pc /\ 0 <= N /\ N <= 65536
 ·obtain ⟨hb,n1,n2⟩ := ok
  obtain ⟨b,hbp,rfl,rfl,rfl,rfl,rfl⟩ := bp_nat2 hb
  obtain ⟨N,rfl⟩ : ∃ n : Nat,N = (n : Int) := ⟨N.toNat,by omega⟩
  have hn : N <= 65536 := by omega
  have P := fun K W p (h : DRd w none (some (pb,s,a)) qb aB dB B p K W) => bdec_any h.1 hG b hb hbp N hn
  have D := fun K W rd (h : DRd w none rd qb aB dB B a K W) => dbdec_any h b hb hbp N hn
  rw [hB] at P
  cases ho : readB b N B a N with
  | none =>
   rw [ho] at P D
   refine ⟨[],[],4,a,ha,Nat.zero_le _,fun l hl => (by cases hl),fun K W p h => ?_,fun K W rd h => ?_⟩
   ·refine (P K W p h).mono ?_
    rintro e w' ⟨rfl,f⟩
    exact ⟨none,0,none,0,[],rfl,nilG,nilW,nilU,fun q hq => (by cases hq),f,h.2⟩
   ·refine (D K W rd h).mono ?_
    rintro e w' ⟨rfl,f⟩
    exact ⟨none,0,none,0,[],rfl,nilG,nilU,fun q hq => (by cases hq),f⟩
  | some q =>
   rw [ho] at P D
   have hq2 : q.2 <= B.length := readB_end hbp hn ha N q ho
   obtain ⟨r1,r2,r3,r4,r5⟩ := readB_some hbp hn ha N q ho hq2
   have hlG : (q.1.map (·.1)).length = q.1.length := List.length_map ..
   refine ⟨q.1.map (·.1),rplaces b N B a (N + 1),0,q.2,hq2,by rw [hlG,r1]; exact hn,fun l hl => ?_,fun K W p h => ?_,fun K W rd h => ?_⟩
   ·obtain ⟨t,ht,rfl⟩ := List.mem_map.1 hl
    have := r5 t ht
    omega
   ·have hqb : qb < W.heap.size := lt_of_block (h.1.row (b := qb) (List.mem_cons_self ..))
    refine (P K W p h).mono ?_
    rintro e w' ⟨vg,va,kx,sg,dg,sa,da,rfl,f,f1,rfl,f2,f3,f9,rfl,f4,f5⟩
    refine ⟨sg,dg,sa,da,kx,by rw [hlG],f3,f9,f5,f1,f.sub (fun p hp => ?_),fun p hp => ?_,h.2.2.1.more (fun p hp => List.mem_append_right _ hp),h.2.2.2⟩
    ·simp only [List.mem_cons,List.mem_append] at hp ⊢
     rcases hp with hp | hp | hp
     ·exact .inr (.inl hp)
     ·exact .inl hp
     ·exact .inr (.inr hp)
    ·rcases List.mem_append.1 hp with hp | hp
     ·have := f1 p hp
      omega
     ·exact h.2.1 p hp
   ·refine (D K W rd h).mono ?_
    rintro e w' ⟨sg,dg,sa,da,kx,rfl,f2,f4,f3,f5,f6,f⟩
    exact ⟨sg,dg,sa,da,kx,by rw [hlG],f3,f5,f6,f⟩
 ·refine ⟨[],[],1,a,ha,Nat.zero_le _,fun l hl => (by cases hl),fun K W p h => ?_,fun K W rd h => ?_⟩
  ·refine (bdec_no pw pd pi pz pc N ok pb W).mono ?_
   rintro e w' ⟨rfl,k⟩
   exact ⟨none,0,none,0,[],rfl,nilG,nilW,nilU,fun q hq => (by cases hq),h.next k⟩
  ·refine (dbdec_no pw pd pi pz pc N ok qb W).mono ?_
   rintro e w' ⟨rfl,k⟩
   exact ⟨none,0,none,0,[],rfl,nilG,nilU,fun q hq => (by cases hq),h.next k⟩
end
theorem DRd.row2 {w W : World} {wr : Option (Nat × Bits)} {rd : Option (Nat × ByteArray × Nat)} {rb : Nat} {aB : Option Addr} {dB : Nat} {B : Bits} {p : Nat} {K : List (Nat × Obj)} (h : DRd w wr rd rb aB dB B p K W) {q : Nat × Obj} (hq : q ∈ K) : W.heap[q.1]? = some q.2 := h.1.row (b := q.1) (o := q.2) (List.mem_cons_of_mem _ hq)
theorem DRd.below {w W : World} {wr : Option (Nat × Bits)} {rd : Option (Nat × ByteArray × Nat)} {rb : Nat} {aB : Option Addr} {dB : Nat} {B : Bits} {p : Nat} {K : List (Nat × Obj)} (h : DRd w wr rd rb aB dB B p K W) : Below w.heap.size w W := h.1.below
def OvC (ids : List Nat) (a : Option Addr) (G : List (List Nat)) (W : World) : Prop := ∀ i (h : i < G.length), ∃ g o s d, a = some ⟨g, o, none⟩ ∧ g < W.heap.size ∧ W.cell? ⟨g, o + i, none⟩ = some (.slice s G[i].length d) ∧ G[i].length ≤ d ∧
 ∀ k,k < G[i].length -> ∃ b c x,s = some ⟨b,c,none⟩ /\ b ∈ ids /\ W.cell? ⟨b,c + k,none⟩ = some (.int .u32 x) /\ ∀ j,W.frozen? ⟨b,j,none⟩ = false
theorem StW.ov {K : List (Nat × Obj)} {a : Option Addr} {G : List (List Nat)} (h : StW K a G) {W : World} (hW : ∀ p ∈ K, W.heap[p.1]? = some p.2) : OvC (K.map (·.1)) a G W := fun i hi => by
 obtain ⟨g,o,s,d,h1,h2,h3,h4,h5⟩ := h W hW i hi
 refine ⟨g,o,s,d,h1,h2,h3,h4,fun k hk => ?_⟩
 obtain ⟨b,c,x,f1,⟨o', f2⟩,f3⟩ := h5 k hk
 exact ⟨b,c,x,f1,List.mem_map.2 ⟨_,f2,rfl⟩,f3⟩
theorem OvC.set {ids : List Nat} {a : Option Addr} {G : List (List Nat)} {W : World} (h : OvC ids a G W) {b c : Nat} {x y : Int} (hx : W.cell? ⟨b, c, none⟩ = some (.int .u32 x)) : OvC ids a G (W.setCell ⟨b, c, none⟩ (.int .u32 y)) := fun i hi => by
 obtain ⟨g,o,s,d,h1,h2,h3,h4,h5⟩ := h i hi
 refine ⟨g,o,s,d,h1,by simpa using h2,?_,h4,fun k hk => ?_⟩
 ·rw [World.cell?_setCell_other (h := fun e => by rw [<- e,hx] at h3; cases h3)]
  exact h3
 ·obtain ⟨b', c', x', f1,f2,f3,f4⟩ := h5 k hk
  by_cases e : (⟨b', c' + k,none⟩ : Addr) = ⟨b,c,none⟩
  ·refine ⟨b', c', y,f1,f2,?_,fun j => ?_⟩
   ·rw [e]
    exact World.cell?_setCell_same W _ _ hx
   ·rw [World.frozen?_setCell]
    exact f4 j
  ·refine ⟨b', c', x', f1,f2,?_,fun j => ?_⟩
   ·rw [World.cell?_setCell_other (h := fun e2 => e e2.symm)]
    exact f3
   ·rw [World.frozen?_setCell]
    exact f4 j
theorem DRd.storeIn {w W : World} {wr : Option (Nat × Bits)} {rd : Option (Nat × ByteArray × Nat)} {rb : Nat} {aB : Option Addr} {dB : Nat} {B : Bits} {p : Nat} {kp K : List (Nat × Obj)} {ids : List Nat} (h : DRd w wr rd rb aB dB B p (kp ++ K) W) (hi : kp.map (·.1) = ids) (ha : ∀ b ∈ ids, ∀ q ∈ K, b ≠ q.1) (hB : BSt K aB B) {b c : Nat} (hb : b ∈ ids) (v : Value) :
  ∃ kp', kp'.map (·.1) = ids /\ DRd w wr rd rb aB dB B p (kp' ++ K) (W.setCell ⟨b,c,none⟩ v) := by
 subst hi
 obtain ⟨⟨b', o⟩,hbo,e⟩ := List.mem_map.1 hb
 dsimp only at e
 subst e
 obtain ⟨h1,h2,h3,h4⟩ := h
 have hr := h1.row (b := b') (o := o) (List.mem_cons_of_mem _ (List.mem_append_left _ hbo))
 have hlt : b' < (W.setCell ⟨b', c,none⟩ v).heap.size := by
  have := lt_of_block hr
  simpa [World.setCell] using this
 obtain ⟨o', ho'⟩ : ∃ o', (W.setCell ⟨b', c,none⟩ v).heap[b']? = some o' := ⟨_,Array.getElem?_eq_getElem hlt⟩
 have hrb : b' ≠ rb := h2 (b', o) (List.mem_append_left _ hbo)
 have f := (h1.sub (ks' := (b', o) :: ((rb,.cells #[.slice aB B.length dB,.int .i64 (p : Int)] 29 (0,0)) :: (kp.filter (fun q => q.1 ≠ b') ++ K))) (fun q hq => by
  simp only [List.mem_cons,List.mem_append,List.mem_filter] at hq ⊢
  rcases hq with rfl | hq | hq | hq
  ·exact .inr (.inl hbo)
  ·exact .inl hq
  ·exact .inr (.inl hq.1)
  ·exact .inr (.inr hq))).turn ((Keeps.refl W (fun x => x = b')).setCell (p := ⟨b', c,none⟩) (.inl rfl) v) ho' (fun q hq => by
  simp only [List.mem_cons,List.mem_append,List.mem_filter,decide_eq_true_eq] at hq
  rcases hq with rfl | hq | hq
  ·exact fun e => hrb e.symm
  ·exact hq.2
  ·exact fun e => ha b' hb q hq e.symm)
 refine ⟨kp.map (fun q => if q.1 = b' then (b', o') else q),?_,f.sub (fun q hq => ?_),fun q hq => ?_,hB.more (fun q hq => List.mem_append_right _ hq),h4⟩
 ·rw [List.map_map]
  refine List.map_congr_left (fun q _ => ?_)
  show (if q.1 = b' then (b', o') else q).1 = q.1
  split
  ·next e => exact e.symm
  ·rfl
 ·simp only [List.mem_cons,List.mem_append,List.mem_map,List.mem_filter] at hq ⊢
  rcases hq with hq | ⟨q', hq', rfl⟩ | hq
  ·exact .inr (.inl hq)
  ·split
   ·exact .inl rfl
   ·next hne => exact .inr (.inr (.inl ⟨hq', by simpa using hne⟩))
  ·exact .inr (.inr (.inr hq))
 ·rcases List.mem_append.1 hq with hq | hq
  ·obtain ⟨q', hq', rfl⟩ := List.mem_map.1 hq
   split
   ·exact hrb
   ·exact h2 q' (List.mem_append_left _ hq')
  ·exact h2 q (List.mem_append_right _ hq)
theorem akb_cells {W : World} {b : Nat} {z N pw pd pi pz pc : Int} (h : W.heap[b]? = some (.cells #[.int .i64 z, .int .i64 N, .int .i64 pw, .int .i64 pd, .int .i64 pi, .int .i64 pz, .int .i64 pc] 73 (0, 0))) :
  W.cell? ⟨b,0,none⟩ = some (.int .i64 z) /\ W.cell? ⟨b,1,none⟩ = some (.int .i64 N) /\ W.cell? ⟨b,2,none⟩ = some (.int .i64 pw) /\ W.cell? ⟨b,3,none⟩ = some (.int .i64 pd) /\ W.cell? ⟨b,4,none⟩ = some (.int .i64 pi) /\ W.cell? ⟨b,5,none⟩ = some (.int .i64 pz) /\ W.cell? ⟨b,6,none⟩ = some (.int .i64 pc) :=
 ⟨by rw [cell_of_row _ _ _ _ _ _ h]; rfl,by rw [cell_of_row _ _ _ _ _ _ h]; rfl,by rw [cell_of_row _ _ _ _ _ _ h]; rfl,by rw [cell_of_row _ _ _ _ _ _ h]; rfl,by rw [cell_of_row _ _ _ _ _ _ h]; rfl,by rw [cell_of_row _ _ _ _ _ _ h]; rfl,by rw [cell_of_row _ _ _ _ _ _ h]; rfl⟩
theorem both_seek2 {w : World} {pb qb dB : Nat} {s : ByteArray} {aB : Option Addr} {B : Bits} (hB : unpack (nats s) = B) (z : Int) :
  ∃ (e : Int) (a' : Nat),a' <= B.length /\ (0 <= z -> z <= ((8 * s.size : Nat) : Int) -> z = (a' : Int)) /\
   (∀ K W p,DRd w none (some (pb,s,0)) qb aB dB B p K W -> Calls Tryz.prog 9 #[.pointer (some ⟨pb,0,none⟩),.int .i64 z] W fun en w' => en = .returned (.int .i64 e) /\ DRd w none (some (pb,s,a')) qb aB dB B p K w') /\
   ∀ K W rd,DRd w none rd qb aB dB B 0 K W -> Calls Tryz.prog 10 #[.pointer (some ⟨qb,0,none⟩),.int .i64 z] W fun en w' => en = .returned (.int .i64 e) /\ DRd w none rd qb aB dB B a' K w' := by
 have hl : B.length = 8 * s.size := by rw [<- hB,bits_len]
 by_cases hz : 0 <= z /\ z <= ((8 * s.size : Nat) : Int)
 ·obtain ⟨n,rfl⟩ : ∃ n : Nat,z = (n : Int) := ⟨z.toNat,by omega⟩
  refine ⟨0,n,by omega,fun _ _ => rfl,fun K W p h => ?_,fun K W rd h => h.seek n (by omega)⟩
  refine (FS.seek h.1 n (by omega)).mono ?_
  rintro e w' ⟨rfl,f⟩
  exact ⟨rfl,f,h.2⟩
 ·refine ⟨1,0,Nat.zero_le _,fun h1 h2 => absurd ⟨h1,h2⟩ hz,fun K W p h => ?_,fun K W rd h => h.seek_no z (by omega)⟩
  obtain ⟨x,hf,hw,hr,hk⟩ := id h.1
  refine (Seek_no x 5 s 0 z pb W (hr _ rfl) (by omega)).mono ?_
  rintro e w' ⟨rfl,rfl⟩
  exact ⟨rfl,h⟩
set_option maxRecDepth 100000 in
set_option maxHeartbeats 6400000 in
theorem bvdecs_any (w : World) (hG : GL w) (haw : ∀ W, Below w.heap.size w W → Calls Tryz.prog 32 #[] W fun e w' => e = .returned (.bool true) ∧ Below W.heap.size W w')
  (s : ByteArray) (hs : s.size <= 1099511627776) (z N pw pd pi pz pc : Int) :
  Calls Tryz.prog 5 #[.string s,.agg #[.int .i64 z,.int .i64 N,.int .i64 pw,.int .i64 pd,.int .i64 pi,.int .i64 pz,.int .i64 pc]] w fun e w' => e = .returned (.bool true) /\ Below w.heap.size w w' := by
 have G0 := Lib.hid hG
 have AW := Lib.hid haw
 obtain ⟨xb,hxb⟩ : ∃ z,w.heap.size = z := ⟨_,rfl⟩
 have f0 := (FS.start w).add #[.int .i64 z,.int .i64 N,.int .i64 pw,.int .i64 pd,.int .i64 pi,.int .i64 pz,.int .i64 pc] 73
 rw [hxb] at f0
 have BT := Lib.hid (fun W => Bits_any s hs W)
 obtain ⟨B,hB⟩ : ∃ B,unpack (nats s) = B := ⟨_,rfl⟩
 have HB := Lib.hid hB
 have hBl : B.length <= 4611686018427387903 := by rw [<- hB,bits_len]; omega
 have HBL : Hid (B.length = 8 * s.size) := Lib.hid (by rw [<- hB,bits_len])
 rw [hB] at BT
 have OW := Lib.hid (fun W => bown_any pw pd pi pz pc W)
 obtain ⟨K0,hK0⟩ : ∃ K', (xb,Obj.cells #[.int .i64 z,.int .i64 N,.int .i64 pw,.int .i64 pd,.int .i64 pi,.int .i64 pz,.int .i64 pc] 73 (0,0)) :: [] = K' := ⟨_,rfl⟩
 rw [hK0] at f0
 have MX : Hid ((xb,Obj.cells #[.int .i64 z,.int .i64 N,.int .i64 pw,.int .i64 pd,.int .i64 pi,.int .i64 pz,.int .i64 pc] 73 (0,0)) ∈ K0) := Lib.hid (by rw [<- hK0]; exact List.mem_cons_self ..)
 unfold bpV at OW
 clear hG haw hB hK0
 go_enter Tryz.func5,Tryz.ntmps5
 go_upto_region 1 with fail
 generalize World.alloc w _ = w0 at f0 ⊢
 clear hxb
 have F0 := Lib.hid (f0.open s (by omega))
 clear f0
 go_wp2_with fail
 with_reducible refine F0.out.mono ?_
 rintro e w1 ⟨pb,rfl,h1⟩
 have F1 := Lib.hid h1
 clear h1 F0
 go_wp2_with fail
 with_reducible refine (BT.out _).mono ?_
 rintro e w2 ⟨v,rfl,hown,k2⟩
 obtain ⟨ka,aB,dB,rfl,hD⟩ := DRd.start F1.out k2 hown hBl
 obtain ⟨qb,hqb⟩ : ∃ z,w2.heap.size = z := ⟨_,rfl⟩
 obtain ⟨K1,hK1⟩ : ∃ K', ka ++ K0 = K' := ⟨_,rfl⟩
 rw [hqb,hK1] at hD
 have MX1 : Hid ((xb,Obj.cells #[.int .i64 z,.int .i64 N,.int .i64 pw,.int .i64 pd,.int .i64 pi,.int .i64 pz,.int .i64 pc] 73 (0,0)) ∈ K1) := Lib.hid (by rw [<- hK1]; exact List.mem_append_right _ MX.out)
 have D0 := Lib.hid hD
 have HBS := Lib.hid hD.2.2.1
 obtain ⟨nB,hnB⟩ : ∃ z,B.length = z := ⟨_,rfl⟩
 rw [hnB]
 rw [hnB] at D0
 have CX : Hid (∀ W rd p K', (∀ q ∈ K1,q ∈ K') -> DRd w none rd qb aB dB B p K' W -> W.cell? ⟨xb,0,none⟩ = some (.int .i64 z) /\ W.cell? ⟨xb,1,none⟩ = some (.int .i64 N) /\ W.cell? ⟨xb,2,none⟩ = some (.int .i64 pw) /\ W.cell? ⟨xb,3,none⟩ = some (.int .i64 pd) /\ W.cell? ⟨xb,4,none⟩ = some (.int .i64 pi) /\ W.cell? ⟨xb,5,none⟩ = some (.int .i64 pz) /\ W.cell? ⟨xb,6,none⟩ = some (.int .i64 pc)) := Lib.hid (fun W rd p K' hk h => akb_cells (h.row2 (hk _ MX1.out)))
 obtain ⟨es,a1,ha1,hz1,hSP,hSD⟩ := both_seek2 (w := w) (pb := pb) (qb := qb) (dB := dB) (aB := aB) HB.out z
 have HZ1 := Lib.hid hz1
 have SD := Lib.hid hSD
 have SP := Lib.hid hSP
 have qs : (es != es) = false := by simp
 clear hown k2 BT F1 hD hK1 hnB hz1 hSP hSD
 go_upto_region 3 with fail
 clear hqb
 generalize World.alloc w2 _ = w3 at D0 ⊢
 obtain ⟨x0,x1,x2,x3,x4,x5,x6⟩ := CX.out _ _ _ _ (fun q hq => hq) D0.out
 go_region_held3 (fun W' => W'.cell? ⟨xb,0,none⟩ = some (.int .i64 z))
  (first | exact (CX.out _ _ _ _ (fun q hq => hq) D0.out).1 | exact (CX.out _ _ _ _ (fun q hq => hq) D0.out.drew).1 | exact (CX.out _ _ _ _ (fun q hq => hq) (by assumption)).1 | exact (CX.out _ _ _ _ (fun q hq => hq) (DRd.drew (by assumption))).1)
  (first
   | (go_at_call 9; (with_reducible refine (SP.out _ _ _ (by first | exact D0.out.drew | exact D0.out | assumption | exact DRd.drew (by assumption))).mono ?_); rintro e w4 ⟨rfl,hp4⟩)
   | (go_at_call 10; (with_reducible refine (SD.out _ _ _ (by first | exact D0.out.drew | exact D0.out | assumption | exact DRd.drew (by assumption))).mono ?_); rintro e w5 ⟨rfl,hd5⟩))
 have D5 := Lib.hid hd5
 clear hp4 hd5 D0 SP SD x0 x1 x2 x3 x4 x5 x6
 obtain ⟨x0,x1,x2,x3,x4,x5,x6⟩ := CX.out _ _ _ _ (fun q hq => hq) D5.out
 go_upto_region 6 with fail
 go_cut [41] from 36 to 42 (fun v41 wc => v41 = .bool (decide (300 < N /\ N <= 65536)) /\ DRd w none (some (pb,s,a1)) qb aB dB B a1 K1 wc)
 case first =>
  by_cases h1 : 300 < N
  ·by_cases h2 : N <= 65536
   ·have R : Hid (decide (300 < N /\ N <= 65536) = true) := Lib.hid (decide_eq_true ⟨h1,h2⟩)
    go_wp2_with fail
    go_meet
    case rel => exact ⟨by rw [R.out],D5.out⟩
   ·have R : Hid (decide (300 < N /\ N <= 65536) = false) := Lib.hid (decide_eq_false (fun h => h2 h.2))
    have h3 : 65536 < N := by omega
    go_wp2_with fail
    go_meet
    case rel => exact ⟨by rw [R.out],D5.out⟩
  ·have R : Hid (decide (300 < N /\ N <= 65536) = false) := Lib.hid (decide_eq_false (fun h => h1 h.1))
   have h3 : N <= 300 := by omega
   go_wp2_with fail
   go_meet
   case rel => exact ⟨by rw [R.out],D5.out⟩
 case rest =>
 rename World => w6
 obtain ⟨rfl,h6⟩ := hcut
 have D6 := Lib.hid h6
 obtain ⟨bb,hbb⟩ : ∃ b,decide (300 < N /\ N <= 65536) = b := ⟨_,rfl⟩
 rw [hbb]
 clear h6 D5 hbb x0 x1 x2 x3 x4 x5 x6
 go_upto_if 41 with fail
 go_cut [7] from 41 to 43 (fun v7 wc => ∃ N' : Int,v7 = .int .i64 N' /\ DRd w none (some (pb,s,a1)) qb aB dB B a1 K1 wc)
 case first =>
  cases bb
  ·go_wp2_with fail
   go_meet
   case rel => exact ⟨N,rfl,D6.out⟩
  ·go_wp2_with fail
   go_meet
   case rel => exact ⟨300,rfl,D6.out⟩
 case rest =>
 rename World => w8
 obtain ⟨N', rfl,h8⟩ := hcut
 have D8 := Lib.hid h8
 obtain ⟨x0,x1,x2,x3,x4,x5,x6⟩ := CX.out _ _ _ _ (fun q hq => hq) h8
 obtain ⟨G,A,eb,a2,ha2,hG9,hGl,hP,hDd⟩ := both_bdec (w := w) (pb := pb) (qb := qb) (dB := dB) (aB := aB) G0.out HB.out ha1 pw pd pi pz pc N'
 have HP := Lib.hid hP
 have HDD := Lib.hid hDd
 unfold bpV at HP HDD
 clear h8 D6 hP hDd
 go_wp2_with fail
 with_reducible refine (OW.out _).mono ?_
 rintro e w9 ⟨rfl,k9⟩
 have h9 := D8.out.next k9
 have hK1 : ∀ q ∈ K1,q.1 < w9.heap.size := fun q hq => lt_of_block (h9.row2 hq)
 have P9 := Lib.hid (HP.out _ _ _ h9)
 clear k9 h9 D8 x0 x1 x2 x3 x4 x5 x6
 go_wp2_with fail
 with_reducible refine P9.out.mono ?_
 rintro e w10 ⟨sg,dg,sa,da,kp,rfl,hst,hsw,hsu,hnew,h10⟩
 have D10 := Lib.hid h10
 have ST1 := Lib.hid hst
 have SW1 := Lib.hid hsw
 have SU1 := Lib.hid hsu
 have APK : Hid (∀ q ∈ kp,∀ q' ∈ K1,q.1 ≠ q'.1) := Lib.hid (fun q hq q' hq' => by have := hnew q hq; have := hK1 q' hq'; omega)
 obtain ⟨x0,x1,x2,x3,x4,x5,x6⟩ := CX.out _ _ _ _ (fun q hq => List.mem_append_right _ hq) h10
 have P10 := Lib.hid (HDD.out _ _ _ h10)
 clear h10 hst hsw hsu hnew hK1 P9
 go_wp2_with fail
 with_reducible refine P10.out.mono ?_
 rintro e w11 ⟨sg2,dg2,sa2,da2,kd,rfl,hst2,hsu2,hap2,h11⟩
 have D11 := Lib.hid h11
 have ST2 := Lib.hid hst2
 have SU2 := Lib.hid hsu2
 have APD := Lib.hid hap2
 have gap : G.length <= dg \/ True := .inr trivial
 clear h11 hst2 hsu2 hap2 x0 x1 x2 x3 x4 x5 x6 P10 D10 gap
 have MF : Hid (∀ W,Below w11.heap.size w11 W -> W.cell? ⟨qb,1,none⟩ = some (.int .i64 (a2 : Int)) /\ Below w11.heap.size w11 W) := Lib.hid (fun W k => ⟨(D11.out.next k).cells.2.1,k⟩)
 have SA : Hid (∀ W,Below w11.heap.size w11 W -> Calls Tryz.prog 35 #[.slice sg G.length dg,.slice sg2 G.length dg2] W fun e w' => e = .returned (.bool true) /\ Below W.heap.size W w') := Lib.hid (fun W k => by
  have hW := D11.out.next k
  exact alike_same W sg sg2 G dg dg2 (ST1.out W (fun q hq => hW.row2 (List.mem_append_right _ (List.mem_append_left _ hq)))) (ST2.out W (fun q hq => hW.row2 (List.mem_append_left _ hq))))
 have SS : Hid (∀ W,Below w11.heap.size w11 W -> Calls Tryz.prog 27 #[.slice sa A.length da,.slice sa2 A.length da2] W fun e w' => e = .returned (.bool true) /\ Below W.heap.size W w') := Lib.hid (fun W k => by
  have hW := D11.out.next k
  exact usame_any W sa sa2 A da da2 (SU1.out W (fun q hq => hW.row2 (List.mem_append_right _ (List.mem_append_left _ hq)))) (SU2.out W (fun q hq => hW.row2 (List.mem_append_left _ hq))))
 have AT : Hid (∀ W,Below w11.heap.size w11 W -> Calls Tryz.prog 14 #[.pointer (some ⟨pb,0,none⟩)] W fun e w' => e = .returned (.int .i64 (a2 : Int)) /\ Below W.heap.size W w') := Lib.hid (fun W k => by
  refine ((D11.out.next k).1.at_).mono ?_
  rintro e w' ⟨rfl,rfl⟩
  exact ⟨rfl,Below.refl _ _⟩)
 have HGL := Lib.hid hGl
 obtain ⟨n,hn⟩ : ∃ z,G.length = z := ⟨_,rfl⟩
 obtain ⟨m,hm⟩ : ∃ z,A.length = z := ⟨_,rfl⟩
 have HN := Lib.hid hn
 rw [hn] at SA hG9 ⊢
 rw [hm] at SS ⊢
 have n1 : (eb != eb) = false := by simp
 have n4 : ((a2 : Int) != (a2 : Int)) = false := by simp
 obtain ⟨m1,-⟩ := MF.out w11 (Below.refl _ _)
 have KX := Lib.hid (fun W W' (h : Below w11.heap.size w11 W) (k : Below W.heap.size W W') => h.trans (k.mono h.size))
 have KZ := Below.refl w11.heap.size w11
 clear hn hm hGl
 go_upto_region 10 with fail
 go_region_held3 (fun W => W.cell? ⟨qb,1,none⟩ = some (.int .i64 (a2 : Int)) /\ Below w11.heap.size w11 W)
  (first | exact MF.out _ (by assumption) | exact MF.out _ (Below.drew (by assumption)))
  (first
   | (go_at_call 35; (with_reducible refine (SA.out _ (by first | assumption | exact Below.drew (by assumption))).mono ?_); rintro e w12 ⟨rfl,k1⟩; have k7 := (by first | exact KX.out _ _ (by assumption) k1 | exact KX.out _ _ (Below.drew (by assumption)) k1 : Below w11.heap.size w11 w12))
   | (go_at_call 27; (with_reducible refine (SS.out _ (by first | assumption | exact Below.drew (by assumption))).mono ?_); rintro e w12 ⟨rfl,k1⟩; have k7 := (by first | exact KX.out _ _ (by assumption) k1 | exact KX.out _ _ (Below.drew (by assumption)) k1 : Below w11.heap.size w11 w12))
   | (go_at_call 14; (with_reducible refine (AT.out _ (by first | assumption | exact Below.drew (by assumption))).mono ?_); rintro e w12 ⟨rfl,k1⟩; have k7 := (by first | exact KX.out _ _ (by assumption) k1 | exact KX.out _ _ (Below.drew (by assumption)) k1 : Below w11.heap.size w11 w12)))
 have D12 := Lib.hid (D11.out.next k7)
 clear k7 k1 KZ n1 n4 m1 D11 MF SA SS AT KX
 obtain ⟨ids,hids⟩ : ∃ z,kp.map (·.1) = z := ⟨_,rfl⟩
 obtain ⟨K3,hK3⟩ : ∃ z,kd ++ K1 = z := ⟨_,rfl⟩
 have HK1 : Hid (∀ q ∈ K1,q ∈ K3) := Lib.hid (fun q hq => by rw [<- hK3]; exact List.mem_append_right _ hq)
 have HKD : Hid (∀ q ∈ kd,q ∈ K3) := Lib.hid (fun q hq => by rw [<- hK3]; exact List.mem_append_left _ hq)
 have BS3 : Hid (BSt K3 aB B) := Lib.hid (HBS.out.more HK1.out)
 have API : Hid (∀ b ∈ ids,∀ q ∈ K3,b ≠ q.1) := Lib.hid (fun b hb q hq => by
  rw [<- hids] at hb
  obtain ⟨q', hq', rfl⟩ := List.mem_map.1 hb
  rw [<- hK3] at hq
  rcases List.mem_append.1 hq with hq | hq
  ·exact fun e => APD.out q hq q' (List.mem_append_left _ hq') e.symm
  ·exact APK.out q' hq' q hq)
 have E12 : Hid (DRd w none (some (pb,s,a2)) qb aB dB B a2 (kp ++ K3) w12 /\ OvC ids sg G w12) := Lib.hid ⟨D12.out.less (fun q hq => by
  rw [<- hK3] at hq
  simp only [List.mem_append] at hq ⊢
  rcases hq with hq | hq | hq
  ·exact .inr (.inl hq)
  ·exact .inl hq
  ·exact .inr (.inr hq)) (BS3.out.more (fun q hq => List.mem_append_right _ hq)),by
  rw [<- hids]
  exact SW1.out.ov (fun q hq => D12.out.row2 (List.mem_append_right _ (List.mem_append_left _ hq)))⟩
 have HIDS := Lib.hid hids
 clear D12 hids hK3
 go_wp2_with fail
 go_loopw [14] (fun v14 wr => ∃ (i : Nat) (kp' : List (Nat × Obj)),v14 = .int .i64 (i : Int) /\ i <= n /\ kp'.map (·.1) = ids /\ DRd w none (some (pb,s,a2)) qb aB dB B a2 (kp' ++ K3) wr /\ OvC ids sg G wr) (fun v14 _ => n - (intOf v14).toNat)
 case atStart => exact ⟨0,kp,rfl,Nat.zero_le _,HIDS.out,E12.out⟩
 case round =>
  obtain ⟨i,kp', rfl,hin,hki,hDi,hOv⟩ := hrel
  rename World => w13
  have D13 := Lib.hid (And.intro hki (And.intro hDi hOv))
  clear hki hDi hOv E12
  by_cases hlt : i < n
  ·have i1 : decide ((i : Int) < (n : Int)) = true := decide_eq_true (by omega)
   have iG : i < G.length := by rw [HN.out]; exact hlt
   obtain ⟨l,hl⟩ : ∃ l,G[i] = l := ⟨_,rfl⟩
   have hl9 : l.length <= 65536 := by rw [<- hl]; exact HGL.out _ (List.getElem_mem iG)
   obtain ⟨ll,hll⟩ : ∃ z,l.length = z := ⟨_,rfl⟩
   have OV : Hid (∀ W,OvC ids sg G W -> ∃ g o s d,sg = some ⟨g,o,none⟩ /\ g < W.heap.size /\ W.cell? ⟨g,o + i,none⟩ = some (.slice s ll d) /\ ll <= d /\ ∀ k,k < ll -> ∃ b c x,s = some ⟨b,c,none⟩ /\ b ∈ ids /\ W.cell? ⟨b,c + k,none⟩ = some (.int .u32 x) /\ ∀ j,W.frozen? ⟨b,j,none⟩ = false) := Lib.hid (fun W h => by
    have h2 := h i iG
    rw [hl,hll] at h2
    exact h2)
   rw [hll] at hl9
   clear hl hll
   go_wp2_with fail
   go_loopw [15] (fun v15 wr => ∃ (k : Nat) (kp' : List (Nat × Obj)),v15 = .int .i64 (k : Int) /\ k <= ll /\ kp'.map (·.1) = ids /\ DRd w none (some (pb,s,a2)) qb aB dB B a2 (kp' ++ K3) wr /\ OvC ids sg G wr) (fun v15 _ => ll - (intOf v15).toNat)
   case atStart => exact ⟨0,kp', rfl,Nat.zero_le _,D13.out⟩
   case round =>
    obtain ⟨k,kq,rfl,hkl,hki,hDi,hOv⟩ := hrel
    rename World => w14
    have D14 := Lib.hid (And.intro hki (And.intro hDi hOv))
    obtain ⟨g,o,s1,d1,rfl,hg,hc,hd,hk9⟩ := OV.out _ hOv
    clear hki hDi hOv D13
    by_cases hkk : k < ll
    ·have i2 : decide ((k : Int) < (ll : Int)) = true := decide_eq_true (by omega)
     obtain ⟨b,c,x,rfl,hb,hx,hf⟩ := hk9 k hkk
     obtain ⟨kr,e1,e2⟩ := D14.out.2.1.storeIn (c := c + k) D14.out.1 API.out BS3.out hb (.int .u32 9)
     have R : Hid (kr.map (·.1) = ids /\ DRd w none (some (pb,s,a2)) qb aB dB B a2 (kr ++ K3) (w14.setCell ⟨b,c + k,none⟩ (.int .u32 9)) /\ OvC ids (some ⟨g,o,none⟩) G (w14.setCell ⟨b,c + k,none⟩ (.int .u32 9))) := Lib.hid ⟨e1,e2,D14.out.2.2.set hx⟩
     clear hk9 e1 e2 D14
     go_wp2_with fail
     go_roundw
     case rel => exact ⟨k + 1,kr,by go_num,by omega,R.out⟩
     case measure => simp [intOf]; omega
    ·have i2 : decide ((k : Int) < (ll : Int)) = false := decide_eq_false (by omega)
     clear hk9
     go_wp2_with fail
     go_roundw
     case rel => exact ⟨i + 1,kq,by go_num,by omega,D14.out⟩
     case measure => simp [intOf]; omega
  ·have i1 : decide ((i : Int) < (n : Int)) = false := decide_eq_false (by omega)
   obtain ⟨x0,x1,x2,x3,x4,x5,x6⟩ := CX.out _ _ _ _ (fun q hq => List.mem_append_right _ (HK1.out q hq)) D13.out.2.1
   have D13b := Lib.hid D13.out.2.1
   have AW2 := Lib.hid (AW.out _ D13.out.2.1.below)
   have KB := Lib.hid D13.out.2.1.below
   have w8s : IntKind.i64.wrap (8 * (s.size : Int)) = 8 * (s.size : Int) := IntWalk.i64_in _ (by omega)
   clear D13
   by_cases hz0 : z < 0
   ·go_wp2_with fail
    with_reducible refine AW2.out.mono ?_
    rintro e w20 ⟨rfl,k20⟩
    have K20 := Lib.hid (KB.out.trans (k20.mono KB.out.size))
    clear k20
    go_wp2_with fail
    go_ret
    exact ⟨rfl,K20.out⟩
   ·by_cases hz9 : 8 * (s.size : Int) < z
    ·go_wp2_with fail
     with_reducible refine AW2.out.mono ?_
     rintro e w20 ⟨rfl,k20⟩
     have K20 := Lib.hid (KB.out.trans (k20.mono KB.out.size))
     clear k20
     go_wp2_with fail
     go_ret
     exact ⟨rfl,K20.out⟩
    ·have hza : z = (a1 : Int) := HZ1.out (by omega) (by omega)
     subst hza
     have h8s : a1 <= 8 * s.size := by rw [<- HBL.out]; exact ha1
     have SK : Hid (Calls Tryz.prog 9 #[.pointer (some ⟨pb,0,none⟩),.int .i64 (a1 : Int)] w13 fun e w' => e = .returned (.int .i64 0) /\ DRd w none (some (pb,s,a1)) qb aB dB B a2 (kp' ++ K3) w') := Lib.hid ((FS.seek D13b.out.1 a1 h8s).mono (by
      rintro e w' ⟨rfl,f⟩
      exact ⟨rfl,f,D13b.out.2⟩))
     clear AW2 KB h8s
     go_wp2_with fail
     with_reducible refine SK.out.mono ?_
     rintro e w14 ⟨rfl,h14⟩
     have D14 := Lib.hid h14
     clear x0 x1 x2 x3 x4 x5 x6 SK D13b
     obtain ⟨x0,x1,x2,x3,x4,x5,x6⟩ := CX.out _ _ _ _ (fun q hq => List.mem_append_right _ (HK1.out q hq)) h14
     clear h14
     go_wp2_with fail
     with_reducible refine (OW.out _).mono ?_
     rintro e w15 ⟨rfl,k15⟩
     have P15 := Lib.hid (HP.out _ _ _ (D14.out.next k15))
     clear k15 D14 x0 x1 x2 x3 x4 x5 x6
     go_wp2_with fail
     with_reducible refine P15.out.mono ?_
     rintro e w16 ⟨sg3,dg3,sa3,da3,kx,rfl,hst3,-,-,-,h16⟩
     have AL := Lib.hid (alike_same w16 sg3 sg2 G dg3 dg2 (hst3 w16 (fun q hq => h16.row2 (List.mem_append_left _ hq))) (ST2.out w16 (fun q hq => h16.row2 (List.mem_append_right _ (List.mem_append_right _ (HKD.out q hq))))))
     have HG3 := HN.out
     rw [HG3] at AL ⊢
     have KB16 := Lib.hid h16.below
     clear h16 hst3 P15 HG3
     go_wp2_with fail
     with_reducible refine AL.out.mono ?_
     rintro e w17 ⟨rfl,k17⟩
     have KB := Lib.hid (KB16.out.trans (k17.mono KB16.out.size))
     have AW2 := Lib.hid (AW.out _ KB.out)
     clear k17 AL
     go_wp2_with fail
     with_reducible refine AW2.out.mono ?_
     rintro e w20 ⟨rfl,k20⟩
     have K20 := Lib.hid (KB.out.trans (k20.mono KB.out.size))
     clear k20
     go_wp2_with fail
     go_ret
     exact ⟨rfl,K20.out⟩
end Go.Proofs.YtflnpcgnenhogaaGreatDoor.ls
