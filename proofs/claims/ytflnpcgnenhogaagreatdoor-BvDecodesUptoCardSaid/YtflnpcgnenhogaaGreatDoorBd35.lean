/- Own lemmas, laid together. -/
import Derived.Test.YtflnpcgnenhogaaGreatDoorBd34
import Derived.Test.YtflnpcgnenhogaaGreatDoorBd32
import Derived.Test.YtflnpcgnenhogaaGreatDoorBd29
import Derived.Test.YtflnpcgnenhogaaGreatDoorBd22
namespace Go.Proofs.YtflnpcgnenhogaaGreatDoor.ls
open Go.RowKit Go.Proofs.YtflnpcgnenhogaaGreatDoor.own Go.Proofs.YtflnpcgnenhogaaGreatDoor.bit

def NX (w : World) (wr : Option (Nat × Bits)) (T : List Tk) (rb : Nat) (s : ByteArray) (a lb : Nat) (ls ks : List (Nat × Obj)) (W : World) : Prop :=
 ∃ row,FS w wr (some (rb,s,a)) ((lb,.cells row 126 (0,0)) :: (ls ++ ks)) W /\ (∀ p ∈ ls ++ ks,p.1 ≠ lb) /\ row.size = 35 /\ Ring T row 0 ls
def NextP (w : World) (wr : Option (Nat × Bits)) (N : Nat) (T : List Tk) (rb : Nat) (s : ByteArray) (lb : Nat) (ls ks : List (Nat × Obj)) (O : Option (Tk × Nat)) (e : Ending) (w' : World) : Prop :=
 match O with
 | some q => ∃ v kv,e = .returned (.tuple #[v,.bool true]) /\ w'.ownsRow 0 77 1 v q.1.1.length (u32V q.1.1) /\ (∀ p ∈ kv,N <= p.1) /\ NX w wr (T ++ [q.1]) rb s q.2 lb (kv ++ ls) ks w'
 | none => e = .returned (.tuple #[.slice none 0 0,.bool false]) /\ ∃ a', NX w wr T rb s a' lb ls ks w'
theorem own_in {W : World} {v : Value} {l : List Nat} {kv : List (Nat × Obj)} (own : W.ownsRow 0 77 1 v l.length (u32V l)) (hk : ∀ g, v.ownBlock = some g → ∃ o, (g, o) ∈ kv) (hW : ∀ p ∈ kv, W.heap[p.1]? = some p.2) (hl : l.length ≤ 65536) (hb : ∀ x ∈ l, x < 4294967296) : ∃ (s : Option Addr) (d : Nat), v = .slice s l.length d ∧ l.length ≤ d ∧ Stands kv s l := by
 rcases own.2 with ⟨rfl,h0⟩ | ⟨g,cap,cur,rfl,hbg,hg,hn,_,_,htake⟩
 ·have hl0 : l = [] := List.eq_nil_of_length_eq_zero h0
  subst hl0
  exact ⟨none,0,rfl,Nat.le_refl _,fun W _ => LV.nil⟩
 ·obtain ⟨o,ho⟩ := hk g rfl
  refine ⟨_,cap,rfl,hn,fun W' hW' => ⟨by omega,fun i hi => ?_⟩⟩
  have hr := hW' _ ho
  have hr0 := hW _ ho
  dsimp only at hr hr0
  rw [hg] at hr0
  injection hr0 with hr0
  rw [<- hr0] at hr
  refine ⟨g,0,rfl,lt_of_block hr,?_,hb _ (List.getElem_mem hi)⟩
  have hx : (u32V l)[i]? = some (.int .u32 (l[i] : Int)) := by unfold u32V; rw [List.getElem?_map,List.getElem?_eq_getElem hi]; rfl
  rw [<- htake,List.getElem?_take_of_lt (by omega)] at hx
  rw [Nat.zero_add,cell_of_row _ _ _ _ _ _ hr,<- Array.getElem?_toList]
  exact hx
theorem taken_some {b : Bp} {T : List Tk} {deg ref : Nat} {t : List Nat × Nat} (hT : TOk T) (hdp : b.depth ≤ 16) (h : takenB b T deg ref = some t) : Ris t.1 ∧ (0 < ref ∨ t.1 = []) ∧ t.2 ≤ 16 := by
 unfold takenB at h
 split at h
 ·rename_i hc
  cases hB : backB b T ref deg with
  | none => rw [hB] at h; cases h
  | some q =>
   rw [hB] at h
   injection h with h
   subst h
   obtain ⟨_,_,_,h4,h5⟩ := back_some hB
   unfold tkMay at h4
   refine ⟨?_,.inl hc,?_⟩
   ·rw [h5]; exact tkOf_ris hT ref
   ·dsimp only; omega
 ·injection h with h
  subst h
  exact ⟨Ris.nil,.inr rfl,Nat.zero_le _⟩
def DecG (w : World) (wr : Option (Nat × Bits)) (N rb : Nat) (s : ByteArray) (a : Nat) (ks : List (Nat × Obj)) (O : Option (List Nat × Nat)) (v : Value) (ec : Int) (w' : World) : Prop :=
 match O with
 | some q => ec = 0 /\ ∃ kv : List (Nat × Obj),w'.ownsRow 0 77 1 v q.1.length (u32V q.1) /\ (∀ g,v.ownBlock = some g -> ∃ o,(g,o) ∈ kv) /\ (∀ p ∈ kv,N <= p.1) /\ FS w wr (some (rb,s,q.2)) (kv ++ ks) w'
 | none => ec = 4 /\ v = .slice none 0 0 /\ FS w wr (some (rb,s,a)) ks w'
def DecF (w : World) (wr : Option (Nat × Bits)) (N rb : Nat) (s : ByteArray) (a : Nat) (ks : List (Nat × Obj)) (O : Option (List Nat × Nat)) (e : Ending) (w' : World) : Prop :=
 ∃ (v : Value) (ec : Int),e = .returned (.tuple #[v,.int .i64 ec]) /\ DecG w wr N rb s a ks O v ec w'
theorem DecG.mono {w w' : World} {wr : Option (Nat × Bits)} {N N' rb : Nat} {s : ByteArray} {a : Nat} {ks : List (Nat × Obj)} {O : Option (List Nat × Nat)} {v : Value} {ec : Int} (h : DecG w wr N rb s a ks O v ec w') (hN : N' ≤ N) : DecG w wr N' rb s a ks O v ec w' := by
 cases O with
 | none => exact h
 | some q =>
  obtain ⟨h1,kv,h2,h3,h4,h5⟩ := h
  exact ⟨h1,kv,h2,h3,fun p hp => by have := h4 p hp; omega,h5⟩
theorem Stands.mem {ls : List (Nat × Obj)} {sl : Option Addr} {l : List Nat} (h : Stands ls sl l) {W : World} (hW : ∀ p ∈ ls, W.heap[p.1]? = some p.2) (h0 : 0 < l.length) {g o : Nat} (hs : sl = some ⟨g, o, none⟩) : ∃ o', (g, o') ∈ ls := by
 obtain ⟨g1,o1,e1,hlt,hc,_⟩ := (h W hW).2 0 h0
 rw [hs] at e1
 injection e1 with e1
 injection e1 with e2 e3
 subst e2 e3
 refine Classical.byContradiction fun hno => ?_
 have hW2 : ∀ p ∈ ls,({ W with heap := W.heap.setIfInBounds g (.cells #[] 77 (0,0)) } : World).heap[p.1]? = some p.2 := fun p hp => by
  show (W.heap.setIfInBounds g _)[p.1]? = _
  rw [Array.getElem?_setIfInBounds_ne (fun e => hno ⟨p.2,by rw [e]; exact hp⟩)]
  exact hW p hp
 obtain ⟨g2,o2,e4,_,hc2,_⟩ := (h _ hW2).2 0 h0
 rw [hs] at e4
 injection e4 with e4
 injection e4 with e5 e6
 subst e5 e6
 have hr : ({ W with heap := W.heap.setIfInBounds g (.cells #[] 77 (0,0)) } : World).heap[g]? = some (.cells #[] 77 (0,0)) := by
  show (W.heap.setIfInBounds g _)[g]? = _
  rw [Array.getElem?_setIfInBounds,if_pos rfl,if_pos hlt]
 rw [cell_of_row _ _ _ _ _ _ hr] at hc2
 simp at hc2
theorem FS.decode5 {w W : World} {rb a : Nat} {s : ByteArray} {wr : Option (Nat × Bits)} {ks : List (Nat × Obj)} (h : FS w wr (some (rb, s, a)) ks W) (hG : GL w) (xv n deg r : Nat) (p : Pr) (hx : xv < 65536) (hn : n ≤ 65536) (hd : deg ≤ 65536) (hr : r ≤ p.win) (hp : p.ok)
  (ar : Option Addr) (ref : List Nat) (cap : Nat) (hcap : ref.length <= cap) (hris : Ris ref) (hr0 : 0 < r \/ ref = []) (hA : LV W ar ref) (hAk : ∀ g o,ar = some ⟨g,o,none⟩ -> 0 < ref.length -> g < w.heap.size \/ ∃ o', (g,o') ∈ ks) :
  Calls Tryz.prog 16 #[.pointer (some ⟨rb,0,none⟩),.int .i64 (xv : Int),.int .i64 (n : Int),.agg #[.int .i64 (deg : Int),.int .i64 (r : Int)],.slice ar ref.length cap,parV (p.win : Int) (p.itv : Int) (p.zet : Int)] W (DecF w wr W.heap.size rb s a ks (dec (unpack (nats s)) xv n deg ref r p a)) := by
 cases hq : dec (unpack (nats s)) xv n deg ref r p a with
 | some q =>
  refine (h.decode4 hG xv n deg r p hx hn hd hr hp ar ref cap hcap hris hr0 hA hAk q hq).mono ?_
  rintro e w' ⟨v,kv,h1,h2,h3,h4,h5⟩
  exact ⟨v,0,h1,rfl,kv,h2,h3,fun p hp => (h4 p hp).2,h5⟩
 | none =>
  have kb := h.below
  obtain ⟨x,hf,hw,hrd,hk⟩ := h
  obtain ⟨m,hm0,hm⟩ := fresh x 100 W.heap.size
  have e0 : x 0 = 100 := hf.col 0 (World.block_lt_of_cell? _ _ hG.g0)
  have e1 : x 1 = 100 := hf.col 1 (World.block_lt_of_cell? _ _ hG.u0)
  have hre : RE x 5 1 m W rb s a [] W := RE.start (hrd _ rfl) (Below.refl _ _) [] (fun p hp => by cases hp)
  refine (decode_any x 5 1 m (by decide) (by omega) (by omega) W (hG.below kb) (by unfold GlC; rw [e0,e1]; omega) rb s a [] W hre xv n deg r p hx hn hd hr hp ar ref cap hcap hris hr0 hA (fun g o e h0 => ?_)).mono ?_
  ·have hc : x g = 100 \/ x g = 4 := by
    rcases hAk g o e h0 with h | ⟨o', h⟩
    ·exact .inl (hf.col g h)
    ·exact .inr (hk _ h).1
   rcases hc with hc | hc <;> · rw [hc]; omega
  ·intro e w' hD
   rw [hq] at hD
   obtain ⟨rfl,x', f2,hr2,hk2⟩ := hD
   refine ⟨_,_,rfl,rfl,rfl,?_⟩
   have f3 : Fr x (fun b => if b < W.heap.size then x b else 6) (fun c => c = 5 \/ c = 1 \/ c = 6) W w' := ⟨f2.os,f2.tape,f2.output,f2.size,fun b hb => if_pos hb,fun b hb _ => by
    show (if b < W.heap.size then x b else 6) = 5 \/ (if b < W.heap.size then x b else 6) = 1 \/ (if b < W.heap.size then x b else 6) = 6
    rw [if_neg (by omega)]
    exact .inr (.inr rfl),fun b hb hC => f2.old b hb (fun hc => by
     have := hm b hb
     rcases hc with hc | hc | hc
     ·exact hC (.inl hc)
     ·exact hC (.inr (.inl hc))
     ·omega)⟩
   obtain ⟨r1,r2,r3⟩ := hrd _ rfl
   have hrlt := lt_of_block r1
   refine ⟨_,hf.trans (f3.mono (fun c hc => by show c < 50; omega)),fun q' e => (hw q' e).frame f3 (by decide),fun q' e => ?_,fun p hp => ?_⟩
   ·cases e
    exact ⟨hr2.1,(if_pos hrlt).trans r2,hr2.2.2⟩
   ·obtain ⟨c1,c2⟩ := hk p hp
    have hl := lt_of_block c2
    exact ⟨(if_pos hl).trans c1,(f2.old p.1 hl (by rw [c1]; omega)).trans c2⟩
set_option maxRecDepth 100000 in
set_option maxHeartbeats 6400000 in
theorem next_any {w W : World} {wr : Option (Nat × Bits)} {b : Bp} {T : List Tk} {rb : Nat} {s : ByteArray} {a lb : Nat} {ls ks : List (Nat × Obj)} (h : NX w wr T rb s a lb ls ks W) (hG : GL w) (hb : b.p.ok) (hdp : b.depth ≤ 16) (hx : T.length < 65536) (hT : TOk T) (n : Nat) (hn : n ≤ 65536) :
  Calls Tryz.prog 65 #[.pointer (some ⟨lb,0,none⟩),.pointer (some ⟨rb,0,none⟩),.int .i64 (n : Int),bpV (b.p.win : Int) (b.depth : Int) (b.p.itv : Int) (b.p.zet : Int) (b.cap : Int)] W (NextP w wr W.heap.size T rb s lb ls ks (nextB b T n (unpack (nats s)) a)) := by
 obtain ⟨row,hF,hne,hz,hR⟩ := h
 have hlbl := lt_of_block (hF.row (List.mem_cons_self ..))
 have HF := Lib.hid hF
 have HNE := Lib.hid hne
 have HR := Lib.hid hR
 have HZ := Lib.hid hz
 have HT := Lib.hid hT
 have BL := Lib.hid (fun W' => blist_any (b.p.win : Int) (b.depth : Int) (b.p.itv : Int) (b.p.zet : Int) (b.cap : Int) W')
 have HD := Lib.hid (fun W' K (h' : FS w wr (some (rb,s,a)) K W') => h'.head hG b.p hb)
 have NO : Hid (∀ a' W', nextB b T n (unpack (nats s)) a = none -> FS w wr (some (rb,s,a')) ((lb,.cells row 126 (0,0)) :: (ls ++ ks)) W' -> NextP w wr W.heap.size T rb s lb ls ks (nextB b T n (unpack (nats s)) a) (.returned (.tuple #[.slice none 0 0,.bool false])) W') := Lib.hid (fun a' W' e h' => by
  rw [e]
  exact ⟨rfl,a', row,h', hne,hz,hR⟩)
 obtain ⟨O,hO⟩ : ∃ O,hread b.p.win (unpack (nats s)) a = O := ⟨_,rfl⟩
 have HO := Lib.hid hO
 rw [hO] at HD
 unfold bpV parV at BL
 unfold parV at HD
 unfold bpV
 clear hF hne hR hz hO hT
 obtain ⟨pb,hpb⟩ : ∃ z,W.heap.size = z := ⟨_,rfl⟩
 rw [hpb] at NO hlbl ⊢
 go_enter Tryz.func65,Tryz.ntmps65
 go_wp2_with fail
 have F1 := HF.out.add #[.int .i64 (b.p.win : Int),.int .i64 (b.depth : Int),.int .i64 (b.p.itv : Int),.int .i64 (b.p.zet : Int),.int .i64 (b.cap : Int)] 61
 have hpl : lb ≠ pb := by omega
 with_reducible refine (BL.out _).mono ?_
 rintro e w2 ⟨rfl,k2⟩
 have F2 := Lib.hid (F1.next k2)
 rw [hpb] at F2
 have HD2 := Lib.hid (HD.out _ _ F2.out)
 clear F1 k2 hpb
 go_wp2_with fail
 with_reducible refine HD2.out.mono ?_
 rintro e w3 ⟨rfl,h3⟩
 obtain ⟨hb3,hhb⟩ : ∃ z,w3.heap.size = z := ⟨_,rfl⟩
 have hp3 : pb < hb3 := by
  have := lt_of_block (h3.row (List.mem_cons_self ..))
  omega
 have hl3 : lb < hb3 := by
  have := lt_of_block (h3.row (List.mem_cons_of_mem _ (List.mem_cons_self ..)))
  omega
 have F3 := Lib.hid h3
 clear h3 HD2 F2
 cases O with
 | none =>
  unfold hrA at F3
  unfold hrV
  dsimp only at F3 ⊢
  go_upto_region 2 with fail
  have F4 := Lib.hid (F3.out.add #[.int .i64 0,.int .i64 0] 39)
  generalize hW4 : World.alloc w3 _ = w4 at F4 ⊢
  clear hW4
  go_wp2_with fail
  exact bodyPost_ret (v := .tuple #[.slice none 0 0,.bool false]) (by simp [results,Tryz.results65,go_sem]) rfl (NO.out _ _ (by unfold nextB; rw [HO.out]; rfl) (F4.out.sub (fun p hp => List.mem_cons_of_mem _ (List.mem_cons_of_mem _ hp))))
 | some q =>
  obtain ⟨deg,ref,a1⟩ := q
  obtain ⟨-,hdeg,href⟩ := hread_some HO.out
  dsimp only at hdeg href
  unfold hrA at F3
  unfold hrV
  dsimp only at F3 ⊢
  go_upto_region 2 with fail
  have F4 := Lib.hid (F3.out.add #[.int .i64 (deg : Int),.int .i64 (ref : Int)] 39)
  generalize hW4 : World.alloc w3 _ = w4 at F4 ⊢
  clear hW4
  rw [hhb] at F4
  go_upto_region 4 with fail
  have F5 := Lib.hid (F4.out.add #[.slice none 0 0,.int .i64 0] 123)
  obtain ⟨tb,htb⟩ : ∃ z,w4.heap.size = z := ⟨_,rfl⟩
  have ht4 : hb3 < tb := by
   have := lt_of_block (F4.out.row (List.mem_cons_self ..))
   omega
  go_upto_region 6 with fail
  rw [htb] at F5
  generalize hW5 : World.alloc w4 _ = w5 at F5 ⊢
  have HTB : Hid (∀ p ∈ ((hb3,Obj.cells #[.int .i64 (deg : Int),.int .i64 (ref : Int)] 39 (0,0)) :: (pb,Obj.cells #[.int .i64 (b.p.win : Int),.int .i64 (b.depth : Int),.int .i64 (b.p.itv : Int),.int .i64 (b.p.zet : Int),.int .i64 (b.cap : Int)] 61 (0,0)) :: (lb,Obj.cells row 126 (0,0)) :: (ls ++ ks)),p.1 ≠ tb) := Lib.hid (fun p hp e => by
   have := lt_of_block (F4.out.row (b := p.1) (o := p.2) hp)
   omega)
  clear hW5 hhb htb F4
  have c1 : w5.cell? ⟨hb3,1,none⟩ = some (.int .i64 (ref : Int)) := by rw [cell_of_row _ _ _ _ _ _ (F5.out.row (List.mem_cons_of_mem _ (List.mem_cons_self ..)))]; rfl
  go_upto_if 27 with fail
  go_cut [13] from 14 to 42 (fun v13 wc => ∃ (byL : List Nat) (ch : Nat) (sl : Option Addr) (d : Nat) (u : Value),takenB b T deg ref = some (byL,ch) /\ v13 = .int .i64 (ch : Int) /\ byL.length <= d /\ Stands ls sl byL /\ FS w wr (some (rb,s,a1)) ((tb,.cells #[.slice sl byL.length d,u] 123 (0,0)) :: (hb3,.cells #[.int .i64 (deg : Int),.int .i64 (ref : Int)] 39 (0,0)) :: (pb,.cells #[.int .i64 (b.p.win : Int),.int .i64 (b.depth : Int),.int .i64 (b.p.itv : Int),.int .i64 (b.p.zet : Int),.int .i64 (b.cap : Int)] 61 (0,0)) :: (lb,.cells row 126 (0,0)) :: (ls ++ ks)) wc)
  case first =>
   by_cases h0 : 0 < ref
   ·have j1 : decide ((0 : Int) < (ref : Int)) = true := decide_eq_true (by omega)
    have j1n : decide (0 < ref) = true := decide_eq_true h0
    have CF5 : Hid (∀ W', FS w wr (some (rb,s,a1)) ((tb,.cells #[.slice none 0 0,.int .i64 0] 123 (0,0)) :: (hb3,.cells #[.int .i64 (deg : Int),.int .i64 (ref : Int)] 39 (0,0)) :: (pb,.cells #[.int .i64 (b.p.win : Int),.int .i64 (b.depth : Int),.int .i64 (b.p.itv : Int),.int .i64 (b.p.zet : Int),.int .i64 (b.cap : Int)] 61 (0,0)) :: (lb,.cells row 126 (0,0)) :: (ls ++ ks)) W' ->
      W'.cell? ⟨hb3,0,none⟩ = some (.int .i64 (deg : Int)) /\ W'.cell? ⟨pb,0,none⟩ = some (.int .i64 (b.p.win : Int)) /\ W'.cell? ⟨pb,1,none⟩ = some (.int .i64 (b.depth : Int)) /\ W'.cell? ⟨pb,2,none⟩ = some (.int .i64 (b.p.itv : Int)) /\ W'.cell? ⟨pb,3,none⟩ = some (.int .i64 (b.p.zet : Int)) /\ W'.cell? ⟨pb,4,none⟩ = some (.int .i64 (b.cap : Int)) /\
      Calls Tryz.prog 68 #[.pointer (some ⟨lb,0,none⟩),.int .i64 (ref : Int),.int .i64 (deg : Int),.agg #[.int .i64 (b.p.win : Int),.int .i64 (b.depth : Int),.int .i64 (b.p.itv : Int),.int .i64 (b.p.zet : Int),.int .i64 (b.cap : Int)]] W' (BackP b T (ref : Int) deg ls W')) := Lib.hid (fun W' h' => by
     have e1 := h'.row (List.mem_cons_of_mem _ (List.mem_cons_self ..))
     have e2 := h'.row (List.mem_cons_of_mem _ (List.mem_cons_of_mem _ (List.mem_cons_self ..)))
     have e3 := h'.row (List.mem_cons_of_mem _ (List.mem_cons_of_mem _ (List.mem_cons_of_mem _ (List.mem_cons_self ..))))
     exact ⟨by rw [cell_of_row _ _ _ _ _ _ e1]; rfl,by rw [cell_of_row _ _ _ _ _ _ e2]; rfl,by rw [cell_of_row _ _ _ _ _ _ e2]; rfl,by rw [cell_of_row _ _ _ _ _ _ e2]; rfl,by rw [cell_of_row _ _ _ _ _ _ e2]; rfl,by rw [cell_of_row _ _ _ _ _ _ e2]; rfl,back_any b T (ref : Int) deg ls W' lb 0 row _ e3 HR.out (by omega) hb.1 (by omega) (fun t ht => (HT.out t ht).len)⟩)
    obtain ⟨c0,p0,p1,p2,p3,p4,hbk⟩ := CF5.out _ F5.out
    have HBK := Lib.hid hbk
    clear hbk CF5
    go_wp2_with fail
    with_reducible refine HBK.out.mono ?_
    rintro e w6 ⟨k6,v,u,bb,rfl,⟨s1,n1,d1,z9,hv,hu⟩,hm⟩
    have hne : ∀ p ∈ ((hb3,Obj.cells #[.int .i64 (deg : Int),.int .i64 (ref : Int)] 39 (0,0)) :: (pb,Obj.cells #[.int .i64 (b.p.win : Int),.int .i64 (b.depth : Int),.int .i64 (b.p.itv : Int),.int .i64 (b.p.zet : Int),.int .i64 (b.cap : Int)] 61 (0,0)) :: (lb,Obj.cells row 126 (0,0)) :: (ls ++ ks)),p.1 ≠ tb := HTB.out
    have F6 : Hid (FS w wr (some (rb,s,a1)) ((tb,.cells #[v,u] 123 (0,0)) :: (hb3,.cells #[.int .i64 (deg : Int),.int .i64 (ref : Int)] 39 (0,0)) :: (pb,.cells #[.int .i64 (b.p.win : Int),.int .i64 (b.depth : Int),.int .i64 (b.p.itv : Int),.int .i64 (b.p.zet : Int),.int .i64 (b.cap : Int)] 61 (0,0)) :: (lb,.cells row 126 (0,0)) :: (ls ++ ks)) ((w6.setCell ⟨tb,0,none⟩ v).setCell ⟨tb,1,none⟩ u)) := Lib.hid (((F5.out.next k6).store (j := 0) v hne).store (j := 1) u hne)
    rw [if_pos (Int.natCast_nonneg _),Int.toNat_natCast] at hm
    have f0 : w6.frozen? ⟨tb,0,none⟩ = false := frozen_of_row w6 tb 0 _ _ ((F5.out.next k6).row (List.mem_cons_self ..))
    have f1 : w6.frozen? ⟨tb,1,none⟩ = false := frozen_of_row w6 tb 1 _ _ ((F5.out.next k6).row (List.mem_cons_self ..))
    have z0 : w6.cell? ⟨tb,0,none⟩ = some (.slice none 0 0) := by rw [cell_of_row _ _ _ _ _ _ ((F5.out.next k6).row (List.mem_cons_self ..))]; rfl
    have z1 : w6.cell? ⟨tb,1,none⟩ = some (.int .i64 0) := by rw [cell_of_row _ _ _ _ _ _ ((F5.out.next k6).row (List.mem_cons_self ..))]; rfl
    clear hne c0 c1 p0 p1 p2 p3 p4 HBK
    cases hB : backB b T ref deg with
    | none =>
     rw [hB] at hm
     dsimp only at hm
     subst hm hv hu
     have HB3 := Lib.hid hB
     clear hB
     go_upto_region 9 with fail
     generalize World.setCell (World.setCell w6 _ _) _ _ = w7 at F6 ⊢
     clear f0 f1 z0 z1
     go_wp2_with fail
     exact bodyPost_ret (v := .tuple #[.slice none 0 0,.bool false]) (by simp [results,Tryz.results65,go_sem]) rfl (NO.out _ _ (by unfold nextB takenB; rw [HO.out]; simp only [Option.bind_some]; rw [if_pos h0,HB3.out]; rfl) (F6.out.sub (fun p hp => List.mem_cons_of_mem _ (List.mem_cons_of_mem _ (List.mem_cons_of_mem _ hp)))))
    | some t =>
     rw [hB] at hm
     dsimp only at hm
     obtain ⟨rfl,sl,d,e1,e2,hd,hst⟩ := hm
     subst e1 e2
     have hch := (back_some hB).2.2.2.1
     have HB3 := Lib.hid hB
     obtain ⟨tl,tc⟩ := t
     unfold tkMay at hch
     dsimp only at hch hd hst F6 ⊢
     have HST := Lib.hid hst
     have hc16 : tc < 16 := by omega
     clear hB hv hu hst hch
     go_upto_region 9 with fail
     generalize World.setCell (World.setCell w6 _ _) _ _ = w7 at F6 ⊢
     clear f0 f1 z0 z1
     have q1 : w7.cell? ⟨tb,1,none⟩ = some (.int .i64 (tc : Int)) := by rw [cell_of_row _ _ _ _ _ _ (F6.out.row (List.mem_cons_self ..))]; rfl
     go_wp2_with fail
     go_meet
     case rel => exact ⟨tl,tc + 1,sl,d,_,by unfold takenB; rw [if_pos h0,HB3.out]; rfl,by go_num,hd,HST.out,F6.out⟩
   ·obtain rfl : ref = 0 := by omega
    go_wp2_with fail
    go_meet
    case rel => exact ⟨[],0,none,0,_,by unfold takenB; rw [if_neg (Nat.lt_irrefl 0)],rfl,Nat.le_refl _,fun W' _ => LV.nil,F5.out⟩
  case rest =>
   obtain ⟨byL,ch,sl,d,u,htk,rfl,hd,hst,hF6⟩ := hcut
   rename World => w6
   have F6 := Lib.hid hF6
   have TS := Lib.hid (taken_some HT.out hdp htk)
   have HTK := Lib.hid htk
   have HST := Lib.hid hst
   have hch := TS.out.2.2
   dsimp only at hch
   obtain ⟨O2,hO2⟩ : ∃ O,dec (unpack (nats s)) T.length n deg byL ref b.p a1 = O := ⟨_,rfl⟩
   have HO2 := Lib.hid hO2
   obtain ⟨nt,hnt⟩ : ∃ z,T.length = z := ⟨_,rfl⟩
   have HNT := Lib.hid hnt
   obtain ⟨bn,hbn⟩ : ∃ z,byL.length = z := ⟨_,rfl⟩
   have HBN := Lib.hid hbn
   obtain ⟨K6,hK6⟩ : ∃ K,((tb,Obj.cells #[.slice sl byL.length d,u] 123 (0,0)) :: (hb3,.cells #[.int .i64 (deg : Int),.int .i64 (ref : Int)] 39 (0,0)) :: (pb,.cells #[.int .i64 (b.p.win : Int),.int .i64 (b.depth : Int),.int .i64 (b.p.itv : Int),.int .i64 (b.p.zet : Int),.int .i64 (b.cap : Int)] 61 (0,0)) :: (lb,.cells row 126 (0,0)) :: (ls ++ ks)) = K := ⟨_,rfl⟩
   have HK6 := Lib.hid hK6
   rw [hK6] at F6
   rw [hbn] at hd hK6
   have CF6 : Hid (∀ W', FS w wr (some (rb,s,a1)) K6 W' -> W'.cell? ⟨lb,34,none⟩ = some (.int .i64 (nt : Int)) /\ W'.cell? ⟨hb3,0,none⟩ = some (.int .i64 (deg : Int)) /\ W'.cell? ⟨hb3,1,none⟩ = some (.int .i64 (ref : Int)) /\ W'.cell? ⟨tb,0,none⟩ = some (.slice sl bn d) /\ W'.cell? ⟨pb,0,none⟩ = some (.int .i64 (b.p.win : Int)) /\ W'.cell? ⟨pb,1,none⟩ = some (.int .i64 (b.depth : Int)) /\ W'.cell? ⟨pb,2,none⟩ = some (.int .i64 (b.p.itv : Int)) /\ W'.cell? ⟨pb,3,none⟩ = some (.int .i64 (b.p.zet : Int)) /\ W'.cell? ⟨pb,4,none⟩ = some (.int .i64 (b.cap : Int))) := Lib.hid (fun W' h' => by
    rw [<- hK6] at h'
    have e0 := h'.row (List.mem_cons_self ..)
    have e1 := h'.row (List.mem_cons_of_mem _ (List.mem_cons_self ..))
    have e2 := h'.row (List.mem_cons_of_mem _ (List.mem_cons_of_mem _ (List.mem_cons_self ..)))
    have e3 := h'.row (List.mem_cons_of_mem _ (List.mem_cons_of_mem _ (List.mem_cons_of_mem _ (List.mem_cons_self ..))))
    exact ⟨by rw [cell_of_row _ _ _ _ _ _ e3,<- HNT.out]; exact HR.out.2.1,by rw [cell_of_row _ _ _ _ _ _ e1]; rfl,by rw [cell_of_row _ _ _ _ _ _ e1]; rfl,by rw [cell_of_row _ _ _ _ _ _ e0]; rfl,by rw [cell_of_row _ _ _ _ _ _ e2]; rfl,by rw [cell_of_row _ _ _ _ _ _ e2]; rfl,by rw [cell_of_row _ _ _ _ _ _ e2]; rfl,by rw [cell_of_row _ _ _ _ _ _ e2]; rfl,by rw [cell_of_row _ _ _ _ _ _ e2]; rfl⟩)
   have DE : Hid (∀ W', FS w wr (some (rb,s,a1)) K6 W' -> Calls Tryz.prog 16 #[.pointer (some ⟨rb,0,none⟩),.int .i64 (nt : Int),.int .i64 (n : Int),.agg #[.int .i64 (deg : Int),.int .i64 (ref : Int)],.slice sl bn d,.agg #[.int .i64 (b.p.win : Int),.int .i64 (b.p.itv : Int),.int .i64 (b.p.zet : Int)]] W' (DecF w wr pb rb s a1 K6 O2)) := Lib.hid (fun W' h' => by
    have hmem : ∀ p ∈ ls,p ∈ K6 := fun p hp => by
     rw [<- HK6.out]
     exact List.mem_cons_of_mem _ (List.mem_cons_of_mem _ (List.mem_cons_of_mem _ (List.mem_cons_of_mem _ (List.mem_append_left _ hp))))
    have hA := HST.out W' (fun p hp => h'.row (b := p.1) (o := p.2) (hmem p hp))
    have hlt : pb <= W'.heap.size := by
     have hm : (pb,Obj.cells #[.int .i64 (b.p.win : Int),.int .i64 (b.depth : Int),.int .i64 (b.p.itv : Int),.int .i64 (b.p.zet : Int),.int .i64 (b.cap : Int)] 61 (0,0)) ∈ K6 := by
      rw [<- HK6.out]
      exact List.mem_cons_of_mem _ (List.mem_cons_of_mem _ (List.mem_cons_self ..))
     exact Nat.le_of_lt (lt_of_block (h'.row hm))
    have h2 := h'.decode5 hG T.length n deg ref b.p hx hn hdeg href hb sl byL d (by rw [HBN.out]; exact hd) TS.out.1 TS.out.2.1 hA (fun g o e h0 => .inr (by
     obtain ⟨o', ho'⟩ := HST.out.mem (fun p hp => h'.row (b := p.1) (o := p.2) (hmem p hp)) h0 e
     exact ⟨o', hmem _ ho'⟩))
    rw [HO2.out,HBN.out] at h2
    rw [HNT.out] at h2
    refine h2.mono ?_
    rintro e w8 ⟨v,ec,rfl,h9⟩
    exact ⟨v,ec,rfl,h9.mono hlt⟩)
   have CF8 : Hid (∀ v ec W', DecG w wr pb rb s a1 K6 O2 v ec W' -> W'.cell? ⟨lb,34,none⟩ = some (.int .i64 (nt : Int)) /\ W'.cell? ⟨hb3,0,none⟩ = some (.int .i64 (deg : Int)) /\ W'.cell? ⟨hb3,1,none⟩ = some (.int .i64 (ref : Int)) /\ W'.cell? ⟨tb,0,none⟩ = some (.slice sl bn d) /\ W'.cell? ⟨pb,0,none⟩ = some (.int .i64 (b.p.win : Int)) /\ W'.cell? ⟨pb,1,none⟩ = some (.int .i64 (b.depth : Int)) /\ W'.cell? ⟨pb,2,none⟩ = some (.int .i64 (b.p.itv : Int)) /\ W'.cell? ⟨pb,3,none⟩ = some (.int .i64 (b.p.zet : Int)) /\ W'.cell? ⟨pb,4,none⟩ = some (.int .i64 (b.cap : Int))) := Lib.hid (fun v ec W' h' => by
    have hk : ∀ p ∈ K6,W'.heap[p.1]? = some p.2 := by
     unfold DecG at h'
     cases O2 with
     | none => exact fun p hp => h'.2.2.row (b := p.1) (o := p.2) hp
     | some q =>
      obtain ⟨_,kv,_,_,_,h9⟩ := h'
      exact fun p hp => h9.row (b := p.1) (o := p.2) (List.mem_append_right _ hp)
    rw [<- hK6] at hk
    have e0 := hk _ (List.mem_cons_self ..)
    have e1 := hk _ (List.mem_cons_of_mem _ (List.mem_cons_self ..))
    have e2 := hk _ (List.mem_cons_of_mem _ (List.mem_cons_of_mem _ (List.mem_cons_self ..)))
    have e3 := hk _ (List.mem_cons_of_mem _ (List.mem_cons_of_mem _ (List.mem_cons_of_mem _ (List.mem_cons_self ..))))
    exact ⟨by rw [cell_of_row _ _ _ _ _ _ e3,<- HNT.out]; exact HR.out.2.1,by rw [cell_of_row _ _ _ _ _ _ e1]; rfl,by rw [cell_of_row _ _ _ _ _ _ e1]; rfl,by rw [cell_of_row _ _ _ _ _ _ e0]; rfl,by rw [cell_of_row _ _ _ _ _ _ e2]; rfl,by rw [cell_of_row _ _ _ _ _ _ e2]; rfl,by rw [cell_of_row _ _ _ _ _ _ e2]; rfl,by rw [cell_of_row _ _ _ _ _ _ e2]; rfl,by rw [cell_of_row _ _ _ _ _ _ e2]; rfl⟩)
   rw [hnt] at hx
   clear htk hst hF6 hO2 hnt hbn hK6 F5 c1
   obtain ⟨c0,c1,c2,c3,p0,p1,p2,p3,p4⟩ := CF6.out _ F6.out
   go_upto_region 12 with fail
   go_region_held3 (fun W' => W'.cell? ⟨lb,34,none⟩ = some (.int .i64 (nt : Int)) /\ W'.cell? ⟨hb3,0,none⟩ = some (.int .i64 (deg : Int)) /\ W'.cell? ⟨hb3,1,none⟩ = some (.int .i64 (ref : Int)) /\ W'.cell? ⟨tb,0,none⟩ = some (.slice sl bn d) /\ W'.cell? ⟨pb,0,none⟩ = some (.int .i64 (b.p.win : Int)) /\ W'.cell? ⟨pb,1,none⟩ = some (.int .i64 (b.depth : Int)) /\ W'.cell? ⟨pb,2,none⟩ = some (.int .i64 (b.p.itv : Int)) /\ W'.cell? ⟨pb,3,none⟩ = some (.int .i64 (b.p.zet : Int)) /\ W'.cell? ⟨pb,4,none⟩ = some (.int .i64 (b.cap : Int)))
    (first | exact CF6.out _ F6.out | exact CF6.out _ F6.out.drew | exact CF8.out _ _ _ h8 | exact CF6.out _ h7 | exact CF6.out _ h7.drew)
    (first
     | (go_at_call 26; (with_reducible refine (BL.out _).mono ?_); rintro e w7 ⟨rfl,k7⟩; have h7 := (by first | exact F6.out.next k7 | exact F6.out.drew.next k7 : FS w wr (some (rb,s,a1)) K6 w7))
     | (go_at_call 16; (with_reducible refine (DE.out _ (by first | exact h7 | exact h7.drew)).mono ?_); rintro e w8 ⟨v8,ec,rfl,h8⟩))
   have H8 := Lib.hid h8
   have F6A := Lib.hid F6.out
   clear h8 h7 k7 c0 c1 c2 c3 p0 p1 p2 p3 p4 CF8 CF6 DE F6
   cases O2 with
   | none =>
    obtain ⟨rfl,rfl,h9⟩ := H8.out
    have H9 := Lib.hid h9
    clear h9 H8
    go_wp2_with fail
    exact bodyPost_ret (v := .tuple #[.slice none 0 0,.bool false]) (by simp [results,Tryz.results65,go_sem]) rfl (NO.out _ _ (by unfold nextB; rw [HO.out,Option.bind_some]; dsimp only; rw [HTK.out,Option.bind_some]; dsimp only; rw [HO2.out]; rfl) (H9.out.sub (fun p hp => by rw [<- HK6.out]; exact List.mem_cons_of_mem _ (List.mem_cons_of_mem _ (List.mem_cons_of_mem _ hp)))))
   | some q2 =>
    obtain ⟨l2,a2⟩ := q2
    obtain ⟨rfl,kv,own8,hkv1,hkv2,h9⟩ := H8.out
    dsimp only at own8 h9
    have hra : a1 <= (unpack (nats s)).length := by
     rw [bits_len]
     obtain ⟨x,_,_,hr,_⟩ := F6A.out
     exact (hr _ rfl).2.2.1
    obtain ⟨d1,d2,d3,d4⟩ := dec_some hb hra HO2.out
    dsimp only at d1 d2 d3 d4
    have hl65 : l2.length <= 65536 := by omega
    obtain ⟨s8,d8,rfl,hd8,hst8⟩ := own_in own8 hkv1 (fun p hp => h9.row (b := p.1) (o := p.2) (List.mem_append_left _ hp)) hl65 (fun x hx' => by have := d3 x hx'; omega)
    have H9 := Lib.hid h9
    have OWN := Lib.hid own8
    have HD3 := Lib.hid (And.intro hkv1 (And.intro hkv2 hst8))
    have hlb6 : (lb,Obj.cells row 126 (0,0)) ∈ K6 := by
     rw [<- HK6.out]
     exact List.mem_cons_of_mem _ (List.mem_cons_of_mem _ (List.mem_cons_of_mem _ (List.mem_cons_self ..)))
    have PU := Lib.hid (rput_any w8 lb 0 row 126 (h9.row (List.mem_append_right _ hlb6)) T ls HR.out (by rw [HNT.out]; omega) s8 l2.length d8 (ch : Int))
    obtain ⟨m,hm⟩ : ∃ z,l2.length = z := ⟨_,rfl⟩
    have HM := Lib.hid hm
    rw [hm] at PU hd8 ⊢
    clear own8 hkv1 hkv2 hst8 h9 H8 d1 d2 d3 d4 hm hl65 hlb6
    go_wp2_with fail
    with_reducible refine PU.out.mono ?_
    rintro e w9 ⟨rfl,kp,hsz,hrow9⟩
    have FIN : Hid (NextP w wr pb T rb s lb ls ks (nextB b T n (unpack (nats s)) a) (.returned (.tuple #[.slice s8 m d8,.bool true])) w9) := Lib.hid (by
     have e1 : nextB b T n (unpack (nats s)) a = some ((l2,ch),a2) := by unfold nextB; rw [HO.out,Option.bind_some]; dsimp only; rw [HTK.out,Option.bind_some]; dsimp only; rw [HO2.out]; rfl
     rw [e1]
     obtain ⟨hkv1,hkv2,hst8⟩ := HD3.out
     have g1 : FS w wr (some (rb,s,a2)) ((lb,.cells row 126 (0,0)) :: (kv ++ ls ++ ks)) w8 := H9.out.sub (fun p hp => by
      rw [<- HK6.out]
      simp only [List.mem_cons,List.mem_append] at hp ⊢
      rcases hp with hp | (hp | hp) | hp
      ·exact .inr (.inr (.inr (.inr (.inl hp))))
      ·exact .inl hp
      ·exact .inr (.inr (.inr (.inr (.inr (.inl hp)))))
      ·exact .inr (.inr (.inr (.inr (.inr (.inr hp))))))
     have g2 : ∀ p ∈ kv ++ ls ++ ks,p.1 ≠ lb := fun p hp => by
      simp only [List.mem_append] at hp
      rcases hp with (hp | hp) | hp
      ·have := hkv2 p hp; omega
      ·exact HNE.out p (List.mem_append_left _ hp)
      ·exact HNE.out p (List.mem_append_right _ hp)
     have g3 := g1.turn kp hrow9 g2
     refine ⟨.slice s8 m d8,kv,rfl,?_,hkv2,⟨_,g3,g2,by rw [putRow_size]; exact HZ.out,?_⟩⟩
     ·dsimp only
      have o8 := OWN.out
      rw [HM.out] at o8 ⊢
      refine own_same2 o8 (fun g hg => ?_)
      obtain ⟨o,ho⟩ := hkv1 g (by rw [HM.out]; exact hg)
      rw [g3.row (b := g) (o := o) (List.mem_cons_of_mem _ (List.mem_append_left _ (List.mem_append_left _ ho))),g1.row (b := g) (o := o) (List.mem_cons_of_mem _ (List.mem_append_left _ (List.mem_append_left _ ho)))]
     ·have h5 := (HR.out.more (ls' := kv ++ ls) (fun p hp => List.mem_append_right _ hp)).put (l2,ch) s8 d8 (by dsimp only; rw [HM.out]; exact hd8) (hst8.more (fun p hp => List.mem_append_left _ hp))
      dsimp only at h5
      rw [HM.out] at h5
      exact h5)
    clear kp hsz hrow9 PU
    go_wp2_with fail
    exact bodyPost_ret (v := .tuple #[.slice s8 m d8,.bool true]) (by simp [results,Tryz.results65,go_sem]) rfl FIN.out
def PlainU (o : Obj) : Prop := ∃ c, o = .cells c 77 (0, 0)
theorem own_stands2 {W : World} {base : Nat} {v : Value} {l : List Nat} (h : W.ownsRow base 77 1 v l.length (u32V l)) (hl : l.length ≤ 65536) (hb : ∀ x ∈ l, x < 4294967296) : ∃ (kv : List (Nat × Obj)) (s : Option Addr) (d : Nat), v = .slice s l.length d ∧ l.length ≤ d ∧ Stands kv s l ∧ (∀ p ∈ kv, base ≤ p.1 ∧ W.heap[p.1]? = some p.2) ∧ ∀ p ∈ kv, PlainU p.2 := by
 rcases h.2 with ⟨rfl,h0⟩ | ⟨g,cap,cur,rfl,hbg,hg,hn,_,_,htake⟩
 ·have hl0 : l = [] := List.eq_nil_of_length_eq_zero h0
  subst hl0
  exact ⟨[],none,0,rfl,Nat.le_refl _,fun W _ => LV.nil,(fun p hp => by cases hp),fun p hp => by cases hp⟩
 ·refine ⟨[(g,.cells cur 77 (0,0))],_,cap,rfl,hn,fun W' hW' => ⟨by omega,fun i hi => ?_⟩,fun p hp => by rw [List.mem_singleton.1 hp]; exact ⟨hbg,hg⟩,fun p hp => by rw [List.mem_singleton.1 hp]; exact ⟨cur,rfl⟩⟩
  have hr := hW' _ (List.mem_singleton.2 rfl)
  refine ⟨g,0,rfl,lt_of_block hr,?_,hb _ (List.getElem_mem hi)⟩
  have hx : (u32V l)[i]? = some (.int .u32 (l[i] : Int)) := by unfold u32V; rw [List.getElem?_map,List.getElem?_eq_getElem hi]; rfl
  rw [<- htake,List.getElem?_take_of_lt (by omega)] at hx
  rw [Nat.zero_add,cell_of_row _ _ _ _ _ _ hr,<- Array.getElem?_toList]
  exact hx
structure DR (w : World) (wr : Option (Nat × Bits)) (T : List Tk) (rb : Nat) (s : ByteArray) (a lb : Nat) (ls gs kg ka ks : List (Nat × Obj)) (vg : Value) (V : List Value) (G : List (List Nat)) (va : Value) (A : List Nat) (N : Nat) (W : World) : Prop where
 nx : NX w wr T rb s a lb ls (kg ++ (ka ++ (gs ++ ks))) W
 hkg : KA kg vg
 hka : KA ka va
 og : W.ownsRow 0 34 1 vg V.length V
 oa : W.ownsRow 0 97 1 va A.length (u64V A)
 rows : GRow gs V G
 offg : Off (ka ++ (gs ++ (ls ++ ks))) vg
 offa : Off (kg ++ (gs ++ (ls ++ ks))) va
 new : ∀ p ∈ kg ++ (ka ++ gs),N <= p.1
 pln : ∀ p ∈ gs,PlainU p.2
section
variable {w W W' W2 : World} {wr : Option (Nat × Bits)} {T T' : List Tk} {rb : Nat} {s : ByteArray} {a a' lb : Nat} {ls gs kg ka ks kv : List (Nat × Obj)} {vg : Value} {V : List Value} {G : List (List Nat)} {va : Value} {A : List Nat} {N : Nat}
theorem NX.has (h : NX w wr T rb s a lb ls ks W) {p : Nat × Obj} (hp : p ∈ ls ++ ks) : W.heap[p.1]? = some p.2 := by
 obtain ⟨row,h1,_⟩ := h
 exact h1.row (b := p.1) (o := p.2) (List.mem_cons_of_mem _ hp)
theorem NX.lb_lt (h : NX w wr T rb s a lb ls ks W) : lb < W.heap.size := by
 obtain ⟨row,h1,_⟩ := h
 exact lt_of_block (h1.row (List.mem_cons_self ..))
theorem NX.next (h : NX w wr T rb s a lb ls ks W) (k : Below W.heap.size W W') : NX w wr T rb s a lb ls ks W' := by
 obtain ⟨row,h1,h2⟩ := h
 exact ⟨row,h1.next k,h2⟩
theorem NX.fs (h : NX w wr T rb s a lb ls ks W) : FS w wr (some (rb, s, a)) ks W := by
 obtain ⟨row,h1,h2⟩ := h
 exact h1.sub (fun p hp => List.mem_cons_of_mem _ (List.mem_append_right _ hp))
theorem NX.turn {K K2 : List (Nat × Obj)} (h : NX w wr T rb s a lb ls K W) (hf : ∀ row, FS w wr (some (rb, s, a)) ((lb, .cells row 126 (0, 0)) :: (ls ++ K)) W → FS w wr (some (rb, s, a)) ((lb, .cells row 126 (0, 0)) :: (ls ++ K2)) W') (hne : ∀ p ∈ K2, p.1 ≠ lb) : NX w wr T rb s a lb ls K2 W' := by
 obtain ⟨row,h1,h2,h3⟩ := h
 refine ⟨row,hf row h1,fun p hp => ?_,h3⟩
 rcases List.mem_append.1 hp with hp | hp
 ·exact h2 p (List.mem_append_left _ hp)
 ·exact hne p hp
theorem NX.ne (h : NX w wr T rb s a lb ls ks W) : ∀ p ∈ ls ++ ks, p.1 ≠ lb := by
 obtain ⟨row,h1,h2,h3⟩ := h
 exact h2
theorem DR.next (h : DR w wr T rb s a lb ls gs kg ka ks vg V G va A N W) (k : Below W.heap.size W W') : DR w wr T rb s a lb ls gs kg ka ks vg V G va A N W' :=
 ⟨h.nx.next k,h.hkg,h.hka,h.hkg.has h.nx.fs (h.nx.fs.next k) (fun _ hp => ⟨List.mem_append_left _ hp,List.mem_append_left _ hp⟩) h.og,h.hka.has h.nx.fs (h.nx.fs.next k) (fun _ hp => ⟨List.mem_append_right _ (List.mem_append_left _ hp),List.mem_append_right _ (List.mem_append_left _ hp)⟩) h.oa,h.rows,h.offg,h.offa,h.new,h.pln⟩
theorem DR.lt (h : DR w wr T rb s a lb ls gs kg ka ks vg V G va A N W) : ∀ p ∈ kg ++ (ka ++ (gs ++ ks)), p.1 < W.heap.size := fun _ hp => lt_of_block (h.nx.has (List.mem_append_right _ hp))
theorem DR.read (h : DR w wr T rb s a lb ls gs kg ka ks vg V G va A N W) (h2 : NX w wr T' rb s a' lb (kv ++ ls) (kg ++ (ka ++ (gs ++ ks))) W') (hn : ∀ p ∈ kv, W.heap.size ≤ p.1) : DR w wr T' rb s a' lb (kv ++ ls) gs kg ka ks vg V G va A N W' := by
 have hlt := h.lt
 have fresh : ∀ {k : List (Nat × Obj)} {v : Value},KA k v -> (∀ p ∈ k,p.1 < W.heap.size) -> Off kv v := fun hk hl p hp e => by
  obtain ⟨o,ho⟩ := hk.1 p.1 e.symm
  have := hl _ ho
  have := hn p hp
  dsimp only at *
  omega
 have f1 := fresh h.hkg (fun p hp => hlt p (List.mem_append_left _ hp))
 have f2 := fresh h.hka (fun p hp => hlt p (List.mem_append_right _ (List.mem_append_left _ hp)))
 have big : ∀ {x : List (Nat × Obj)} {v : Value},Off (x ++ (gs ++ (ls ++ ks))) v -> Off kv v -> Off (x ++ (gs ++ (kv ++ ls ++ ks))) v := fun ho hv p hp => by
  simp only [List.mem_append] at hp
  rcases hp with hp | hp | (hp | hp) | hp
  ·exact ho p (by simp only [List.mem_append]; exact .inl hp)
  ·exact ho p (by simp only [List.mem_append]; exact .inr (.inl hp))
  ·exact hv p hp
  ·exact ho p (by simp only [List.mem_append]; exact .inr (.inr (.inl hp)))
  ·exact ho p (by simp only [List.mem_append]; exact .inr (.inr (.inr hp)))
 exact ⟨h2,h.hkg,h.hka,h.hkg.has h.nx.fs h2.fs (fun p hp => ⟨List.mem_append_left _ hp,List.mem_append_left _ hp⟩) h.og,h.hka.has h.nx.fs h2.fs (fun p hp => ⟨List.mem_append_right _ (List.mem_append_left _ hp),List.mem_append_right _ (List.mem_append_left _ hp)⟩) h.oa,h.rows,big h.offg f1,big h.offa f2,h.new,h.pln⟩
theorem DR.copy {v2 : Value} {l : List Nat} (h : DR w wr T rb s a lb ls gs kg ka ks vg V G va A N W) (hN : N ≤ W.heap.size) (own : W2.ownsRow W.heap.size 77 1 v2 l.length (u32V l)) (k : Below W.heap.size W W2) (hl : l.length ≤ 65536) (hb : ∀ x ∈ l, x < 4294967296) :
  ∃ kl sl d,v2 = .slice sl l.length d /\ l.length <= d /\ Stands kl sl l /\ DR w wr T rb s a lb ls (kl ++ gs) kg ka ks vg V G va A N W2 := by
 obtain ⟨kl,sl,d,hv,hd,hst,hk,hpl⟩ := own_stands2 own hl hb
 have hlt := h.lt
 have h2 := h.next k
 have fresh : ∀ {k : List (Nat × Obj)} {v : Value},KA k v -> (∀ p ∈ k,p.1 < W.heap.size) -> Off kl v := fun hk' hl p hp e => by
  obtain ⟨o,ho⟩ := hk'.1 p.1 e.symm
  have := hl _ ho
  have := (hk p hp).1
  dsimp only at *
  omega
 have f1 := fresh h.hkg (fun p hp => hlt p (List.mem_append_left _ hp))
 have f2 := fresh h.hka (fun p hp => hlt p (List.mem_append_right _ (List.mem_append_left _ hp)))
 have big : ∀ {x : List (Nat × Obj)} {v : Value},Off (x ++ (gs ++ (ls ++ ks))) v -> Off kl v -> Off (x ++ (kl ++ gs ++ (ls ++ ks))) v := fun ho hv p hp => by
  simp only [List.mem_append] at hp
  rcases hp with hp | (hp | hp) | hp | hp
  ·exact ho p (by simp only [List.mem_append]; exact .inl hp)
  ·exact hv p hp
  ·exact ho p (by simp only [List.mem_append]; exact .inr (.inl hp))
  ·exact ho p (by simp only [List.mem_append]; exact .inr (.inr (.inl hp)))
  ·exact ho p (by simp only [List.mem_append]; exact .inr (.inr (.inr hp)))
 have hlb := h.nx.lb_lt
 refine ⟨kl,sl,d,hv,hd,hst,⟨h.nx.turn (fun row f => (f.more (js := kl) k hk).sub (fun p hp => ?_)) (fun p hp => ?_),h2.hkg,h2.hka,h2.og,h2.oa,h2.rows.more (fun p hp => List.mem_append_right _ hp),big h.offg f1,big h.offa f2,fun p hp => ?_,fun p hp => (List.mem_append.1 hp).elim (hpl p) (h.pln p)⟩⟩
 ·simp only [List.mem_cons,List.mem_append] at hp ⊢
  rcases hp with hp | hp | hp | hp | (hp | hp) | hp
  ·exact .inr (.inl hp)
  ·exact .inr (.inr (.inl hp))
  ·exact .inr (.inr (.inr (.inl hp)))
  ·exact .inr (.inr (.inr (.inr (.inl hp))))
  ·exact .inl hp
  ·exact .inr (.inr (.inr (.inr (.inr (.inl hp)))))
  ·exact .inr (.inr (.inr (.inr (.inr (.inr hp)))))
 ·simp only [List.mem_append] at hp
  rcases hp with hp | hp | (hp | hp) | hp
  ·exact h.nx.ne p (by simp only [List.mem_append]; exact .inr (.inl hp))
  ·exact h.nx.ne p (by simp only [List.mem_append]; exact .inr (.inr (.inl hp)))
  ·have := (hk p hp).1
   omega
  ·exact h.nx.ne p (by simp only [List.mem_append]; exact .inr (.inr (.inr (.inl hp))))
  ·exact h.nx.ne p (by simp only [List.mem_append]; exact .inr (.inr (.inr (.inr hp))))
 ·simp only [List.mem_append] at hp
  rcases hp with hp | hp | hp | hp
  ·exact h.new p (by simp only [List.mem_append]; exact .inl hp)
  ·exact h.new p (by simp only [List.mem_append]; exact .inr (.inl hp))
  ·have := (hk p hp).1
   omega
  ·exact h.new p (by simp only [List.mem_append]; exact .inr (.inr hp))
theorem DR.pushG {v' : Value} {l : List Nat} {sl : Option Addr} {d : Nat} (h : DR w wr T rb s a lb ls gs kg ka ks vg V G va A N W) (hN : N ≤ W.heap.size) (hd : l.length ≤ d) (hst : Stands gs sl l) (own : W2.ownsRow 0 34 1 v' (V.length + 1) (V ++ [.slice sl l.length d])) (hg : W.grownBy W2 vg.ownBlock)
  (hw : v'.ownBlock = vg.ownBlock \/ v'.ownBlock = some W.heap.size) : ∃ kg', DR w wr T rb s a lb ls gs kg' ka ks v' (V ++ [.slice sl l.length d]) (G ++ [l]) va A N W2 := by
 have hlb := h.nx.lb_lt
 obtain ⟨row,h1,h2,h3⟩ := h.nx
 have kbr : some lb ≠ vg.ownBlock := fun e => by
  obtain ⟨o', ho'⟩ := h.hkg.1 lb e.symm
  exact h2 _ (List.mem_append_right _ (List.mem_append_left _ ho')) rfl
 obtain ⟨k2,a1,a2,a3,a4⟩ := (h1.sub (ks' := kg ++ ((lb,.cells row 126 (0,0)) :: (ls ++ (ka ++ (gs ++ ks))))) (fun p hp => by
  simp only [List.mem_cons,List.mem_append] at hp ⊢
  rcases hp with hp | hp | hp | hp | hp | hp
  ·exact .inr (.inr (.inl hp))
  ·exact .inl hp
  ·exact .inr (.inl hp)
  ·exact .inr (.inr (.inr (.inl hp)))
  ·exact .inr (.inr (.inr (.inr (.inl hp))))
  ·exact .inr (.inr (.inr (.inr (.inr hp)))))).push h.hkg (fun p hp => by
  simp only [List.mem_cons,List.mem_append] at hp
  rcases hp with rfl | hp | hp | hp | hp
  ·exact kbr
  ·exact h.offg p (by simp only [List.mem_append]; exact .inr (.inr (.inl hp)))
  ·exact h.offg p (by simp only [List.mem_append]; exact .inl hp)
  ·exact h.offg p (by simp only [List.mem_append]; exact .inr (.inl hp))
  ·exact h.offg p (by simp only [List.mem_append]; exact .inr (.inr (.inr hp)))) hg own hw
 have f2 : FS w wr (some (rb,s,a)) ((lb,.cells row 126 (0,0)) :: (ls ++ (k2 ++ (ka ++ (gs ++ ks))))) W2 := a3.sub (fun p hp => by
  simp only [List.mem_cons,List.mem_append] at hp ⊢
  rcases hp with hp | hp | hp | hp | hp | hp
  ·exact .inr (.inl hp)
  ·exact .inr (.inr (.inl hp))
  ·exact .inl hp
  ·exact .inr (.inr (.inr (.inl hp)))
  ·exact .inr (.inr (.inr (.inr (.inl hp))))
  ·exact .inr (.inr (.inr (.inr (.inr hp)))))
 have nk : ∀ p ∈ k2,p.1 ≠ lb /\ N <= p.1 /\ some p.1 ≠ va.ownBlock := fun p hp => by
  rcases a4 p hp with ⟨o,ho⟩ | hge
  ·refine ⟨h2 (p.1,o) (List.mem_append_right _ (List.mem_append_left _ ho)),h.new (p.1,o) (List.mem_append_left _ ho),h.offa (p.1,o) (List.mem_append_left _ ho)⟩
  ·refine ⟨by omega,by omega,fun e => ?_⟩
   obtain ⟨o,ho⟩ := h.hka.1 p.1 e.symm
   have := h.lt _ (List.mem_append_right _ (List.mem_append_left _ ho))
   dsimp only at this
   omega
 have fs2 : FS w wr (some (rb,s,a)) (k2 ++ (ka ++ (gs ++ ks))) W2 := f2.sub (fun p hp => List.mem_cons_of_mem _ (List.mem_append_right _ hp))
 refine ⟨k2,⟨⟨row,f2,fun p hp => ?_,h3⟩,a1,h.hka,by rw [List.length_append]; exact own,h.hka.has h.nx.fs fs2 (fun p hp => ⟨List.mem_append_right _ (List.mem_append_left _ hp),List.mem_append_right _ (List.mem_append_left _ hp)⟩) h.oa,h.rows.snoc l sl d hd hst,fun p hp => ?_,fun p hp => ?_,fun p hp => ?_,h.pln⟩⟩
 ·simp only [List.mem_append] at hp
  rcases hp with hp | hp | hp
  ·exact h2 p (List.mem_append_left _ hp)
  ·exact (nk p hp).1
  ·exact h2 p (List.mem_append_right _ (List.mem_append_right _ (by simpa using hp)))
 ·simp only [List.mem_append] at hp
  rcases hp with hp | hp | hp | hp
  ·exact a2 p (by simp only [List.mem_cons,List.mem_append]; exact .inr (.inr (.inl hp)))
  ·exact a2 p (by simp only [List.mem_cons,List.mem_append]; exact .inr (.inr (.inr (.inl hp))))
  ·exact a2 p (by simp only [List.mem_cons,List.mem_append]; exact .inr (.inl hp))
  ·exact a2 p (by simp only [List.mem_cons,List.mem_append]; exact .inr (.inr (.inr (.inr hp))))
 ·rcases List.mem_append.1 hp with hp | hp
  ·exact (nk p hp).2.2
  ·exact h.offa p (List.mem_append_right _ hp)
 ·rcases List.mem_append.1 hp with hp | hp
  ·exact (nk p hp).2.1
  ·exact h.new p (List.mem_append_right _ hp)
theorem DR.pushA {v' : Value} {z : Nat} (h : DR w wr T rb s a lb ls gs kg ka ks vg V G va A N W) (hN : N ≤ W.heap.size) (own : W2.ownsRow 0 97 1 v' (A.length + 1) (u64V A ++ [.int .u64 (z : Int)])) (hg : W.grownBy W2 va.ownBlock)
  (hw : v'.ownBlock = va.ownBlock \/ v'.ownBlock = some W.heap.size) : ∃ ka', DR w wr T rb s a lb ls gs kg ka' ks vg V G v' (A ++ [z]) N W2 := by
 have hlb := h.nx.lb_lt
 obtain ⟨row,h1,h2,h3⟩ := h.nx
 have kbr : some lb ≠ va.ownBlock := fun e => by
  obtain ⟨o', ho'⟩ := h.hka.1 lb e.symm
  exact h2 _ (List.mem_append_right _ (List.mem_append_right _ (List.mem_append_left _ ho'))) rfl
 obtain ⟨k2,a1,a2,a3,a4⟩ := (h1.sub (ks' := ka ++ ((lb,.cells row 126 (0,0)) :: (ls ++ (kg ++ (gs ++ ks))))) (fun p hp => by
  simp only [List.mem_cons,List.mem_append] at hp ⊢
  rcases hp with hp | hp | hp | hp | hp | hp
  ·exact .inr (.inr (.inr (.inl hp)))
  ·exact .inl hp
  ·exact .inr (.inl hp)
  ·exact .inr (.inr (.inl hp))
  ·exact .inr (.inr (.inr (.inr (.inl hp))))
  ·exact .inr (.inr (.inr (.inr (.inr hp)))))).push h.hka (fun p hp => by
  simp only [List.mem_cons,List.mem_append] at hp
  rcases hp with rfl | hp | hp | hp | hp
  ·exact kbr
  ·exact h.offa p (by simp only [List.mem_append]; exact .inr (.inr (.inl hp)))
  ·exact h.offa p (by simp only [List.mem_append]; exact .inl hp)
  ·exact h.offa p (by simp only [List.mem_append]; exact .inr (.inl hp))
  ·exact h.offa p (by simp only [List.mem_append]; exact .inr (.inr (.inr hp)))) hg own hw
 have f2 : FS w wr (some (rb,s,a)) ((lb,.cells row 126 (0,0)) :: (ls ++ (kg ++ (k2 ++ (gs ++ ks))))) W2 := a3.sub (fun p hp => by
  simp only [List.mem_cons,List.mem_append] at hp ⊢
  rcases hp with hp | hp | hp | hp | hp | hp
  ·exact .inr (.inl hp)
  ·exact .inr (.inr (.inl hp))
  ·exact .inr (.inr (.inr (.inl hp)))
  ·exact .inl hp
  ·exact .inr (.inr (.inr (.inr (.inl hp))))
  ·exact .inr (.inr (.inr (.inr (.inr hp)))))
 have nk : ∀ p ∈ k2,p.1 ≠ lb /\ N <= p.1 /\ some p.1 ≠ vg.ownBlock := fun p hp => by
  rcases a4 p hp with ⟨o,ho⟩ | hge
  ·refine ⟨h2 (p.1,o) (List.mem_append_right _ (List.mem_append_right _ (List.mem_append_left _ ho))),h.new (p.1,o) (List.mem_append_right _ (List.mem_append_left _ ho)),h.offg (p.1,o) (List.mem_append_left _ ho)⟩
  ·refine ⟨by omega,by omega,fun e => ?_⟩
   obtain ⟨o,ho⟩ := h.hkg.1 p.1 e.symm
   have := h.lt _ (List.mem_append_left _ ho)
   dsimp only at this
   omega
 have fs2 : FS w wr (some (rb,s,a)) (kg ++ (k2 ++ (gs ++ ks))) W2 := f2.sub (fun p hp => List.mem_cons_of_mem _ (List.mem_append_right _ hp))
 refine ⟨k2,⟨⟨row,f2,fun p hp => ?_,h3⟩,h.hkg,a1,h.hkg.has h.nx.fs fs2 (fun p hp => ⟨List.mem_append_left _ hp,List.mem_append_left _ hp⟩) h.og,by rw [u64V_append,List.length_append]; exact own,h.rows,fun p hp => ?_,fun p hp => ?_,fun p hp => ?_,h.pln⟩⟩
 ·simp only [List.mem_append] at hp
  rcases hp with hp | hp | hp | hp
  ·exact h2 p (List.mem_append_left _ hp)
  ·exact h2 p (by simp only [List.mem_append]; exact .inr (.inl hp))
  ·exact (nk p hp).1
  ·exact h2 p (by simp only [List.mem_append]; exact .inr (.inr (.inr hp)))
 ·rcases List.mem_append.1 hp with hp | hp
  ·exact (nk p hp).2.2
  ·exact h.offg p (List.mem_append_right _ hp)
 ·simp only [List.mem_append] at hp
  rcases hp with hp | hp | hp | hp
  ·exact a2 p (by simp only [List.mem_cons,List.mem_append]; exact .inr (.inr (.inl hp)))
  ·exact a2 p (by simp only [List.mem_cons,List.mem_append]; exact .inr (.inr (.inr (.inl hp))))
  ·exact a2 p (by simp only [List.mem_cons,List.mem_append]; exact .inr (.inl hp))
  ·exact a2 p (by simp only [List.mem_cons,List.mem_append]; exact .inr (.inr (.inr (.inr hp))))
 ·simp only [List.mem_append] at hp
  rcases hp with hp | hp | hp
  ·exact h.new p (List.mem_append_left _ hp)
  ·exact (nk p hp).2.1
  ·exact h.new p (List.mem_append_right _ (List.mem_append_right _ hp))
end
theorem FS.seek {w W : World} {wr : Option (Nat × Bits)} {rb a : Nat} {s : ByteArray} {ks : List (Nat × Obj)} (h : FS w wr (some (rb, s, a)) ks W) (z : Nat) (hz : z ≤ 8 * s.size) :
  Calls Tryz.prog 9 #[.pointer (some ⟨rb,0,none⟩),.int .i64 (z : Int)] W fun e w' => e = .returned (.int .i64 0) /\ FS w wr (some (rb,s,z)) ks w' := by
 obtain ⟨x,hf,hw,hr,hk⟩ := h
 refine (Seek_any x 5 s a z rb W (hr _ rfl) hz).mono ?_
 rintro e w' ⟨rfl,f2,hr2⟩
 exact ⟨rfl,x,hf.trans (f2.mono (fun c hc => by show c < 50; omega)),fun q e => (hw q e).frame f2 (by decide),fun q e => by cases e; exact hr2,rows_frame hk f2 (by decide)⟩
def StG (K : List (Nat × Obj)) (a : Option Addr) (G : List (List Nat)) : Prop := ∀ W : World, (∀ p ∈ K, W.heap[p.1]? = some p.2) → LLs W a G
def StU (K : List (Nat × Obj)) (a : Option Addr) (l : List Nat) : Prop := ∀ W : World, (∀ p ∈ K, W.heap[p.1]? = some p.2) → UV W a l
def StW (K : List (Nat × Obj)) (a : Option Addr) (G : List (List Nat)) : Prop := ∀ W : World, (∀ p ∈ K, W.heap[p.1]? = some p.2) → ∀ i (h : i < G.length), ∃ g o s d, a = some ⟨g, o, none⟩ ∧ g < W.heap.size ∧ W.cell? ⟨g, o + i, none⟩ = some (.slice s G[i].length d) ∧ G[i].length ≤ d ∧
 ∀ k,k < G[i].length -> ∃ b c x,s = some ⟨b,c,none⟩ /\ (∃ o', (b,o') ∈ K) /\ W.cell? ⟨b,c + k,none⟩ = some (.int .u32 x) /\ ∀ j,W.frozen? ⟨b,j,none⟩ = false
def BdP (w : World) (wr : Option (Nat × Bits)) (N rb : Nat) (s : ByteArray) (a : Nat) (ks : List (Nat × Obj)) (P : List Nat) (O : Option (List Tk × Nat)) (e : Ending) (w' : World) : Prop :=
 match O with
 | some q => ∃ vg va kx sg dg sa da,e = .returned (.tuple #[vg,va,.int .i64 0]) /\ FS w wr (some (rb,s,q.2)) (kx ++ ks) w' /\ (∀ p ∈ kx,N <= p.1) /\ vg = .slice sg q.1.length dg /\ q.1.length <= dg /\ StG kx sg (q.1.map (·.1)) /\ StW kx sg (q.1.map (·.1)) /\ va = .slice sa P.length da /\ P.length <= da /\ StU kx sa P
 | none => e = .returned (.tuple #[.slice none 0 0,.slice none 0 0,.int .i64 4]) /\ FS w wr (some (rb,s,a)) ks w'
theorem own_stG {W : World} {v : Value} {V : List Value} {G : List (List Nat)} {kg gs : List (Nat × Obj)} (own : W.ownsRow 0 34 1 v V.length V) (hk : ∀ g, v.ownBlock = some g → ∃ o, (g, o) ∈ kg) (hW : ∀ p ∈ kg, W.heap[p.1]? = some p.2) (h : GRow gs V G) (hz : G.length ≤ 4611686018427387903) :
  ∃ sg d,v = .slice sg G.length d /\ G.length <= d /\ StG (kg ++ gs) sg G := by
 have hl := h.1
 rcases own.2 with ⟨rfl,h0⟩ | ⟨g,cap,cur,rfl,hbg,hg,hn,_,_,htake⟩
 ·have : G.length = 0 := by omega
  exact ⟨none,0,by rw [this],by omega,fun W' _ => ⟨hz,fun i hi => by omega⟩⟩
 ·obtain ⟨o,ho⟩ := hk g rfl
  refine ⟨_,cap,by rw [hl],by omega,fun W' hW' => ⟨hz,fun i hi => ?_⟩⟩
  obtain ⟨s,d,e1,e2,e3⟩ := h.2 i hi
  have hr := hW' _ (List.mem_append_left _ ho)
  have hr0 := hW _ ho
  dsimp only at hr hr0
  rw [hg] at hr0
  injection hr0 with hr0
  rw [<- hr0] at hr
  refine ⟨g,0,s,d,rfl,lt_of_block hr,?_,e2,e3 W' (fun p hp => hW' p (List.mem_append_right _ hp))⟩
  rw [<- htake,List.getElem?_take_of_lt (by omega)] at e1
  rw [Nat.zero_add,cell_of_row _ _ _ _ _ _ hr,<- Array.getElem?_toList]
  exact e1
theorem StW.more {K K' : List (Nat × Obj)} {a : Option Addr} {G : List (List Nat)} (h : StW K a G) (hs : ∀ p ∈ K, p ∈ K') : StW K' a G := fun W hW i hi => by
 obtain ⟨g,o,s,d,h1,h2,h3,h4,h5⟩ := h W (fun p hp => hW p (hs p hp)) i hi
 refine ⟨g,o,s,d,h1,h2,h3,h4,fun k hk => ?_⟩
 obtain ⟨b,c,x,f1,⟨o', f2⟩,f3⟩ := h5 k hk
 exact ⟨b,c,x,f1,⟨o', hs _ f2⟩,f3⟩
theorem own_stW {W : World} {v : Value} {V : List Value} {G : List (List Nat)} {kg gs : List (Nat × Obj)} {sg : Option Addr} {n d : Nat} (hv : v = .slice sg n d) (own : W.ownsRow 0 34 1 v V.length V) (hk : ∀ g, v.ownBlock = some g → ∃ o, (g, o) ∈ kg) (hW : ∀ p ∈ kg, W.heap[p.1]? = some p.2) (h : GRow gs V G) (hp : ∀ p ∈ gs, PlainU p.2) : StW (kg ++ gs) sg G := by
 have hl := h.1
 rcases own.2 with ⟨rfl,h0⟩ | ⟨g,cap,cur,rfl,hbg,hg,hn,_,_,htake⟩
 ·exact fun W' _ i hi => by omega
 ·injection hv with hv _ _
  subst hv
  obtain ⟨o,ho⟩ := hk g rfl
  intro W' hW' i hi
  obtain ⟨s,d', e1,e2,e3⟩ := h.2 i hi
  have hr := hW' _ (List.mem_append_left _ ho)
  have hr0 := hW _ ho
  dsimp only at hr hr0
  rw [hg] at hr0
  injection hr0 with hr0
  rw [<- hr0] at hr
  refine ⟨g,0,s,d', rfl,lt_of_block hr,?_,e2,fun k hk2 => ?_⟩
  ·rw [<- htake,List.getElem?_take_of_lt (by omega)] at e1
   rw [Nat.zero_add,cell_of_row _ _ _ _ _ _ hr,<- Array.getElem?_toList]
   exact e1
  ·have hWg' : ∀ p ∈ gs,W'.heap[p.1]? = some p.2 := fun p hp => hW' p (List.mem_append_right _ hp)
   obtain ⟨b,c,f1,f2,f3,f4⟩ := (e3 W' hWg').2 k hk2
   obtain ⟨o', ho'⟩ := e3.mem hWg' (by omega) f1
   obtain ⟨cc,ec⟩ := hp _ ho'
   have hb := hWg' _ ho'
   dsimp only at hb ec
   rw [ec] at hb
   exact ⟨b,c,_,f1,⟨o', List.mem_append_right _ ho'⟩,f3,fun j => frozen_of_row W' b j _ _ hb⟩
theorem own_stU {W : World} {v : Value} {l : List Nat} {ka : List (Nat × Obj)} (own : W.ownsRow 0 97 1 v l.length (u64V l)) (hk : ∀ g, v.ownBlock = some g → ∃ o, (g, o) ∈ ka) (hW : ∀ p ∈ ka, W.heap[p.1]? = some p.2) (hz : l.length ≤ 4611686018427387903) :
  ∃ sa d,v = .slice sa l.length d /\ l.length <= d /\ StU ka sa l := by
 rcases own.2 with ⟨rfl,h0⟩ | ⟨g,cap,cur,rfl,hbg,hg,hn,_,_,htake⟩
 ·exact ⟨none,0,by rw [h0],by omega,fun W' _ => ⟨hz,fun i hi => by omega⟩⟩
 ·obtain ⟨o,ho⟩ := hk g rfl
  refine ⟨_,cap,rfl,by omega,fun W' hW' => ⟨hz,fun i hi => ?_⟩⟩
  have hr := hW' _ ho
  have hr0 := hW _ ho
  dsimp only at hr hr0
  rw [hg] at hr0
  injection hr0 with hr0
  rw [<- hr0] at hr
  have e1 : (u64V l)[i]? = some (.int .u64 (l[i] : Int)) := by unfold u64V; rw [List.getElem?_map,List.getElem?_eq_getElem hi]; rfl
  rw [<- htake,List.getElem?_take_of_lt (by omega)] at e1
  refine ⟨g,0,rfl,lt_of_block hr,?_⟩
  rw [Nat.zero_add,cell_of_row _ _ _ _ _ _ hr,<- Array.getElem?_toList]
  exact e1
def ring0 : Array Value := #[.slice none 0 0, .int .i64 0, .slice none 0 0, .int .i64 0, .slice none 0 0, .int .i64 0, .slice none 0 0, .int .i64 0, .slice none 0 0, .int .i64 0, .slice none 0 0, .int .i64 0, .slice none 0 0, .int .i64 0, .slice none 0 0, .int .i64 0, .slice none 0 0, .int .i64 0, .slice none 0 0, .int .i64 0, .slice none 0 0, .int .i64 0, .slice none 0 0, .int .i64 0, .slice none 0 0, .int .i64 0, .slice none 0 0, .int .i64 0, .slice none 0 0, .int .i64 0, .slice none 0 0, .int .i64 0, .slice none 0 0, .int .i64 0, .int .i64 0]
theorem ring0_ok (ls : List (Nat × Obj)) : Ring [] ring0 0 ls := by
 refine ⟨(show (0 + 35 : Nat) <= 35 from by decide),rfl,fun k hk => ⟨none,0,0,0,?_,?_⟩,fun j hj => by cases hj⟩
 ·have : k = 0 \/ k = 1 \/ k = 2 \/ k = 3 \/ k = 4 \/ k = 5 \/ k = 6 \/ k = 7 \/ k = 8 \/ k = 9 \/ k = 10 \/ k = 11 \/ k = 12 \/ k = 13 \/ k = 14 \/ k = 15 \/ k = 16 := by omega
  rcases this with rfl | rfl | rfl | rfl | rfl | rfl | rfl | rfl | rfl | rfl | rfl | rfl | rfl | rfl | rfl | rfl | rfl <;> rfl
 ·have : k = 0 \/ k = 1 \/ k = 2 \/ k = 3 \/ k = 4 \/ k = 5 \/ k = 6 \/ k = 7 \/ k = 8 \/ k = 9 \/ k = 10 \/ k = 11 \/ k = 12 \/ k = 13 \/ k = 14 \/ k = 15 \/ k = 16 := by omega
  rcases this with rfl | rfl | rfl | rfl | rfl | rfl | rfl | rfl | rfl | rfl | rfl | rfl | rfl | rfl | rfl | rfl | rfl <;> rfl
theorem DR.start {N : Nat} {w W : World} {wr : Option (Nat × Bits)} {rb : Nat} {s : ByteArray} {a : Nat} {ks : List (Nat × Obj)} (h : FS w wr (some (rb, s, a)) ks W) (hN : N ≤ W.heap.size) : DR w wr [] rb s a (W.heap.size + 1) [] [] [] [(W.heap.size, .cells #[.int .u64 0] 97 (0, 0))] ks (.slice none 0 0) [] [] (.slice (some ⟨W.heap.size, 0, none⟩) 1 1) [0] N ((W.alloc (.cells #[.int .u64 0] 97)).alloc (.cells ring0 126)) := by
 have f1 := h.add #[.int .u64 0] 97
 have f2 := f1.add ring0 126
 have hz : (W.alloc (.cells #[.int .u64 0] 97)).heap.size = W.heap.size + 1 := by simp
 rw [hz] at f2
 have old : ∀ p ∈ ks,p.1 < W.heap.size := fun p hp => lt_of_block (h.row (b := p.1) (o := p.2) hp)
 have hr := f2.row (List.mem_cons_of_mem _ (List.mem_cons_self ..))
 refine ⟨⟨ring0,f2,fun p hp => ?_,rfl,ring0_ok []⟩,KA.none,⟨fun g hg => ⟨.cells #[.int .u64 0] 97 (0,0),by injection hg with hg; subst hg; exact List.mem_singleton.2 rfl⟩,fun p hp => by rw [List.mem_singleton.1 hp]; rfl⟩,World.ownsRow_nil _ _ _ _,⟨rfl,.inr ⟨W.heap.size,1,_,rfl,Nat.zero_le _,hr,Nat.le_refl _,by decide,rfl,rfl⟩⟩,GRow.nil _,Off.none _,fun p hp e => ?_,fun p hp => ?_,fun p hp => by cases hp⟩
 ·simp only [List.nil_append,List.mem_append,List.mem_cons,List.not_mem_nil,or_false] at hp
  rcases hp with rfl | hp
  ·show W.heap.size ≠ W.heap.size + 1; omega
  ·have := old p hp; omega
 ·simp only [List.nil_append] at hp
  have e : some p.1 = some W.heap.size := e
  injection e with e
  have := old p hp
  omega
 ·simp only [List.nil_append,List.append_nil,List.mem_cons,List.not_mem_nil,or_false] at hp
  subst hp
  exact hN
set_option maxRecDepth 100000 in
set_option maxHeartbeats 6400000 in
theorem bdec_any {w W : World} {wr : Option (Nat × Bits)} {rb : Nat} {s : ByteArray} {a : Nat} {ks : List (Nat × Obj)} (h : FS w wr (some (rb, s, a)) ks W) (hG : GL w) (b : Bp) (hb : BpOk (b.p.win : Int) (b.depth : Int) (b.p.itv : Int) (b.p.zet : Int) (b.cap : Int)) (hbp : b.p.ok) (n : Nat) (hn : n ≤ 65536) :
  Calls Tryz.prog 33 #[.pointer (some ⟨rb,0,none⟩),.int .i64 (n : Int),bpV (b.p.win : Int) (b.depth : Int) (b.p.itv : Int) (b.p.zet : Int) (b.cap : Int)] W (BdP w wr W.heap.size rb s a ks (rplaces b n (unpack (nats s)) a (n + 1)) (readB b n (unpack (nats s)) a n)) := by
 obtain ⟨j0,hj,hj0,hj1,hj2⟩ := info_parts Tryz.infoU64
 obtain ⟨g0,hg,hg0,hg1,hg2⟩ := info_parts Tryz.infoU32s
 obtain ⟨i0,hi,hi0,hi1,hi2⟩ := info_parts Tryz.infoU32
 have hdp : b.depth <= 16 := by have := hb.2.2.1; omega
 have CK := Lib.hid (fun W' => bcheck_any (b.p.win : Int) (b.depth : Int) (b.p.itv : Int) (b.p.zet : Int) (b.cap : Int) W')
 rw [if_pos hb] at CK
 have H := Lib.hid h
 have hra : a <= 8 * s.size /\ s.size <= 1152921504606846975 := by
  obtain ⟨x,_,_,hr,_⟩ := h
  exact ⟨(hr _ rfl).2.2.1,(hr _ rfl).2.2.2⟩
 obtain ⟨ha8,hs8⟩ := hra
 clear hb h
 obtain ⟨pb,hpb⟩ : ∃ z,W.heap.size = z := ⟨_,rfl⟩
 rw [hpb]
 obtain ⟨B,hB⟩ : ∃ B,unpack (nats s) = B := ⟨_,rfl⟩
 have HBL : Hid (B.length = 8 * s.size) := Lib.hid (by rw [<- hB,bits_len])
 have NX2 := Lib.hid (fun T (hx : T.length < 65536) (hT : TOk T) a' lb ls K W' (h' : NX w wr T rb s a' lb ls K W') => next_any (b := b) h' hG hbp hdp hx hT n hn)
 rw [hB] at NX2 ⊢
 clear hB
 unfold bpV at CK NX2 ⊢
 have hnI : decide ((n : Int) < 0) = false := decide_eq_false (by omega)
 have hnJ : decide ((65536 : Int) < (n : Int)) = false := decide_eq_false (by omega)
 have hnK : decide (65536 < n) = false := decide_eq_false (by omega)
 go_enter Tryz.func33,Tryz.ntmps33
 go_wp2_with fail
 have F1 := H.out.add #[.int .i64 (b.p.win : Int),.int .i64 (b.depth : Int),.int .i64 (b.p.itv : Int),.int .i64 (b.p.zet : Int),.int .i64 (b.cap : Int)] 61
 rw [hpb] at F1
 with_reducible refine (CK.out _).mono ?_
 rintro e w2 ⟨rfl,k2⟩
 have F2 := Lib.hid (F1.next k2)
 have AT := Lib.hid F2.out.at_
 clear F1 k2
 go_wp2_with fail
 with_reducible refine AT.out.mono ?_
 rintro e w3 ⟨rfl,rfl⟩
 go_upto_region 9 with fail
 have hN2 : pb <= w2.heap.size := by
  have := lt_of_block (F2.out.row (List.mem_cons_self ..))
  omega
 obtain ⟨K1,hK1⟩ : ∃ K,((pb,Obj.cells #[.int .i64 (b.p.win : Int),.int .i64 (b.depth : Int),.int .i64 (b.p.itv : Int),.int .i64 (b.p.zet : Int),.int .i64 (b.cap : Int)] 61 (0,0)) :: ks) = K := ⟨_,rfl⟩
 have HK1 := Lib.hid hK1
 rw [hK1] at F2
 have D0 := Lib.hid (DR.start (N := pb) F2.out hN2)
 unfold ring0 at D0
 obtain ⟨sb,hsb⟩ : ∃ z,w2.heap.size = z := ⟨_,rfl⟩
 rw [hsb] at D0
 obtain ⟨lb,hlb⟩ : ∃ z,w2.heap.size + 1 = z := ⟨_,rfl⟩
 rw [<- hsb,hlb,hsb] at D0
 rw [hlb,hsb]
 have hsl : sb + 1 = lb := by rw [<- hsb]; exact hlb
 generalize hW3 : World.alloc (World.alloc w2 _) _ = w3 at D0 ⊢
 have PC : Hid (∀ T a' ls gs kg ka vg V G va A W', DR w wr T rb s a' lb ls gs kg ka K1 vg V G va A pb W' -> W'.cell? ⟨pb,0,none⟩ = some (.int .i64 (b.p.win : Int)) /\ W'.cell? ⟨pb,1,none⟩ = some (.int .i64 (b.depth : Int)) /\ W'.cell? ⟨pb,2,none⟩ = some (.int .i64 (b.p.itv : Int)) /\ W'.cell? ⟨pb,3,none⟩ = some (.int .i64 (b.p.zet : Int)) /\ W'.cell? ⟨pb,4,none⟩ = some (.int .i64 (b.cap : Int)) /\ pb <= W'.heap.size) := Lib.hid (fun T a' ls gs kg ka vg V G va A W' h' => by
  have e2 := h'.nx.has (p := (pb,Obj.cells #[.int .i64 (b.p.win : Int),.int .i64 (b.depth : Int),.int .i64 (b.p.itv : Int),.int .i64 (b.p.zet : Int),.int .i64 (b.cap : Int)] 61 (0,0))) (by
   rw [<- hK1]
   simp)
  exact ⟨by rw [cell_of_row _ _ _ _ _ _ e2]; rfl,by rw [cell_of_row _ _ _ _ _ _ e2]; rfl,by rw [cell_of_row _ _ _ _ _ _ e2]; rfl,by rw [cell_of_row _ _ _ _ _ _ e2]; rfl,by rw [cell_of_row _ _ _ _ _ _ e2]; rfl,Nat.le_of_lt (lt_of_block e2)⟩)
 have NO : Hid (∀ k a' ls gs kg ka vg V G va A T W' ,k <= n -> readB b n B a k = none -> DR w wr T rb s a' lb ls gs kg ka K1 vg V G va A pb W' -> Calls Tryz.prog 9 #[.pointer (some ⟨rb,0,none⟩),.int .i64 (a : Int)] W' fun e w' => e = .returned (.int .i64 0) /\ BdP w wr pb rb s a ks (rplaces b n B a (n + 1)) (readB b n B a n) (.returned (.tuple #[.slice none 0 0,.slice none 0 0,.int .i64 4])) w') := Lib.hid (fun k a' ls gs kg ka vg V G va A T W' hk he h' => by
  refine (h'.nx.fs.seek a ha8).mono ?_
  rintro e w' ⟨rfl,h2⟩
  refine ⟨rfl,?_⟩
  rw [readB_none he hk]
  exact ⟨rfl,h2.sub (fun p hp => by rw [<- hK1]; simp [hp])⟩)
 clear hpb hsb hlb hW3 F2 hK1 AT H CK hN2
 go_wp2_with fail
 go_loopw [10,11,12,35] (fun v10 v11 v12 v35 wr' => ∃ (i : Nat) (T : List Tk) (a' : Nat) (ls gs kg ka : List (Nat × Obj)) (V : List Value),v35 = .int .i64 (i : Int) /\ i <= n /\ readB b n B a i = some (T,a') /\ v10 = .int .i64 (edges (T.map (·.1)) : Int) /\ DR w wr T rb s a' lb ls gs kg ka K1 v11 V (T.map (·.1)) v12 (rplaces b n B a (i + 1)) pb wr') (fun _ _ _ v35 _ => n - (intOf v35).toNat)
 case atStart => exact ⟨0,[],a,[],[],[],_,[],rfl,Nat.zero_le _,rfl,rfl,by rw [rplaces_one]; exact D0.out⟩
 case round =>
  obtain ⟨i,T,a', ls,gs,kg,ka,V,rfl,hin,hrd,rfl,hD⟩ := hrel
  rename World => w4
  have HD := Lib.hid hD
  obtain ⟨sg,cg,rfl⟩ := own_shape hD.og
  obtain ⟨sa,ca,rfl⟩ := own_shape hD.oa
  have ha' : a' <= B.length := by
   rw [HBL.out]
   obtain ⟨x,_,_,hr,_⟩ := hD.nx.fs
   exact (hr _ rfl).2.2.1
  obtain ⟨hTl,hTO,haa,hE,hTn⟩ := readB_some hbp hn (by rw [HBL.out]; exact ha8) i _ hrd ha'
  dsimp only at hTl hTO haa hE hTn
  have HTO := Lib.hid hTO
  have HRD := Lib.hid hrd
  obtain ⟨E,hEE⟩ : ∃ z,edges (T.map (·.1)) = z := ⟨_,rfl⟩
  have HEE := Lib.hid hEE
  have HTN := Lib.hid hTn
  have HTL := Lib.hid hTl
  rw [hEE] at hE ⊢
  clear hD D0 hTO hrd hEE hTn
  by_cases hlt : i < n
  · --A
   have i1 : decide ((i : Int) < (n : Int)) = true := decide_eq_true (by omega)
   obtain ⟨O,hO⟩ : ∃ O,nextB b T n B a' = O := ⟨_,rfl⟩
   have HO := Lib.hid hO
   have NXT := Lib.hid (NX2.out T (by omega) HTO.out a' lb ls _ w4 HD.out.nx)
   rw [hO] at NXT
   obtain ⟨p0,p1,p2,p3,p4,hp9⟩ := PC.out _ _ _ _ _ _ _ _ _ _ _ _ HD.out
   clear hO
   go_wp2_with fail
   with_reducible refine NXT.out.mono ?_
   rintro e w5 hP
   clear p0 p1 p2 p3 p4 NXT
   cases O with
   | none =>
    obtain ⟨rfl,a2,h5⟩ := hP
    have SE := Lib.hid (NO.out (i + 1) _ _ _ _ _ _ _ _ _ _ _ w5 (by omega) (by unfold readB; rw [HRD.out,Option.bind_some]; dsimp only; rw [HO.out]; rfl) (HD.out.read (kv := []) h5 (fun p hp => by cases hp)))
    clear h5
    go_wp2_with fail
    with_reducible refine SE.out.mono ?_
    rintro e w6 ⟨rfl,h6⟩
    have H6 := Lib.hid h6
    clear h6 SE
    go_wp2_with fail
    exact bodyPost_ret (v := .tuple #[.slice none 0 0,.slice none 0 0,.int .i64 4]) (by simp [results,Tryz.results33,go_sem]) rfl H6.out
   | some q =>
    obtain ⟨⟨l,ch⟩,a2⟩ := q
    obtain ⟨v5,kv,rfl,own5,hkv,h5⟩ := hP
    dsimp only at own5 h5
    obtain ⟨hris,hln,hlv,haa2⟩ := nextB_some hbp hn ha' HO.out
    dsimp only at hris hln hlv haa2
    have hE2 : edges ((T ++ [(l,ch)]).map (·.1)) = E + l.length := by rw [List.map_append,List.map_singleton,edges_snoc,HEE.out]
    have HE2 := Lib.hid hE2
    have D5 := Lib.hid (HD.out.read h5 hkv)
    obtain ⟨sv,cv,rfl,hcv,hLV5⟩ := lv_own (by omega) (fun u hu => by have := hlv u hu; omega) own5
    have HLV5 := Lib.hid hLV5
    have HRIS := Lib.hid (And.intro hris hlv)
    obtain ⟨m,hm⟩ : ∃ z,l.length = z := ⟨_,rfl⟩
    have HM := Lib.hid hm
    rw [hm] at hln hcv ⊢
    clear hE2 h5 own5 hLV5 hris hlv hm
    by_cases hE5 : E + m <= 1048576
    ·have i2 : decide ((1048576 : Int) < (E : Int) + (m : Int)) = false := decide_eq_false (by omega)
     obtain ⟨nv,hnv⟩ : ∃ z,V.length = z := ⟨_,rfl⟩
     obtain ⟨na,hna⟩ : ∃ z,(rplaces b n B a (i + 1)).length = z := ⟨_,rfl⟩
     have HNV := Lib.hid hnv
     have HNA := Lib.hid hna
     have hnv9 : nv <= 65536 := by
      have h9 := HD.out.rows.1
      rw [List.length_map,HTL.out] at h9
      omega
     have hna9 : na <= 65537 := by
      have h9 := rplaces_length b n B a (i + 1)
      omega
     rw [hnv,hna]
     have C3 : Hid (0 + m <= maxLen) := Lib.hid (by simp only [maxLen]; omega)
     have C4 : Hid ((0 + m) * 4 <= 140737488355328) := Lib.hid (by omega)
     have C5 : Hid (nv + 1 <= maxLen) := Lib.hid (by simp only [maxLen]; omega)
     have C6 : Hid ((nv + 1) * 24 <= 140737488355328) := Lib.hid (by omega)
     have C7 : Hid (na + 1 <= maxLen) := Lib.hid (by simp only [maxLen]; omega)
     have C8 : Hid ((na + 1) * 8 <= 140737488355328) := Lib.hid (by omega)
     have RD2 : Hid (readB b n B a (i + 1) = some (T ++ [(l,ch)],a2)) := Lib.hid (by
      unfold readB
      rw [HRD.out,Option.bind_some]
      dsimp only
      rw [HO.out,Option.bind_some]
      dsimp only
      rw [HE2.out,HM.out,if_pos hE5])
     have hN5 := (PC.out _ _ _ _ _ _ _ _ _ _ _ _ D5.out).2.2.2.2.2
     clear hnv hna
     go_wp2_with (at_builtin; refine wpList_append_lv _ rfl _ _ 34 rfl w5.heap.size 77 i0 _ 4 Tryz.underlying34 hi hi0 hi1 hi2 rfl _ 0 _ rfl (World.ownsRow_nil _ _ _ _) sv m cv l rfl HM.out HLV5.out C3.out C4.out (Nat.le_refl _) ?_)
     intro v6 w6 own6 hg6 hw6
     obtain ⟨kl,sl,dl,e6,hdl,hstl,hD6⟩ := D5.out.copy hN5 (v2 := v6) (l := l) (by rw [HM.out]; exact own6) ⟨hg6.os,hg6.tape,hg6.output,hg6.size,fun b hb => hg6.block b hb (fun e => by cases e)⟩ (by rw [HM.out]; omega) (fun x hx => by have := HRIS.out.2 x hx; omega)
     rw [HM.out] at e6 hdl
     subst e6
     have D6 := Lib.hid hD6
     have HSTL := Lib.hid (And.intro hdl hstl)
     have hN6 := (PC.out _ _ _ _ _ _ _ _ _ _ _ _ hD6).2.2.2.2.2
     have OG : Hid ((w6.alloc (.cells #[.slice sl m dl] 34)).ownsRow 0 34 1 (.slice sg nv cg) nv V) := Lib.hid (by
      have h := hD6.og.alloc (.cells #[.slice sl m dl] 34)
      rw [HNV.out] at h
      exact h)
     clear own6 hg6 hw6 hD6 hdl hstl D5
     go_wp2_with (at_builtin; refine wpList_append_at _ rfl _ _ 54 rfl 0 34 g0 _ 1 24 Tryz.underlying54 hg hg0 hg1 hg2 rfl (by decide) _ nv _ rfl OG.out ⟨w6.heap.size,0,none⟩ 1 1 [.slice sl m dl] rfl rfl (cell_one_new _ _ _) (fun u hu => by simp at hu; subst hu; rfl) C5.out C6.out (Nat.zero_le _) (by decide) ?_)
     intro v7 w7 own7 hg7 hw7
     obtain ⟨kg', hD7⟩ := (D6.out.next ((Below.refl _ _).alloc (Nat.le_refl _) (.cells #[.slice sl m dl] 34))).pushG (l := l) (sl := sl) (d := dl) (by simp; omega) (by rw [HM.out]; exact HSTL.out.1) (HSTL.out.2.more (fun p hp => List.mem_append_left _ hp)) (by rw [HNV.out,HM.out]; exact own7) (by rw [HNV.out]; exact hg7) (by rw [HNV.out]; simpa using hw7)
     have D7 := Lib.hid hD7
     have AT := Lib.hid hD7.nx.fs.at_
     have hN7 := (PC.out _ _ _ _ _ _ _ _ _ _ _ _ hD7).2.2.2.2.2
     obtain ⟨z,hz⟩ : ∃ z,a2 - a = z := ⟨_,rfl⟩
     have HZ := Lib.hid hz
     have ha2 : a2 <= 8 * s.size := by
      obtain ⟨x,_,_,hr,_⟩ := hD7.nx.fs
      exact (hr _ rfl).2.2.1
     have w1 : IntKind.i64.wrap ((a2 : Int) - (a : Int)) = (z : Int) := by rw [IntWalk.i64_in _ (by omega)]; omega
     have hz9 : z <= 9223372036854775807 := by omega
     have w2u : IntKind.u64.wrap (z : Int) = (z : Int) := IntWalk.u64_in _ (by omega)
     have hV7 : (V ++ [Value.slice sl l.length dl]).length = nv + 1 := by rw [List.length_append,HNV.out]; rfl
     have HV7 := Lib.hid hV7
     clear own7 hg7 hw7 hD7 OG D6 hz hV7
     go_wp2_with fail
     with_reducible refine AT.out.mono ?_
     rintro e w8 ⟨rfl,rfl⟩
     have OA : Hid ((w7.alloc (.cells #[.int .u64 (z : Int)] 97)).ownsRow 0 97 1 (.slice sa na ca) na (u64V (rplaces b n B a (i + 1)))) := Lib.hid (by
      have h := D7.out.oa.alloc (.cells #[.int .u64 (z : Int)] 97)
      rw [HNA.out] at h
      exact h)
     go_wp2_with (at_builtin; refine wpList_append_at _ rfl _ _ 58 rfl 0 97 j0 _ 1 8 Tryz.underlying58 hj hj0 hj1 hj2 rfl (by decide) _ na _ rfl OA.out ⟨w7.heap.size,0,none⟩ 1 1 [.int .u64 (z : Int)] rfl rfl (cell_one_new _ _ _) (fun u hu => by simp at hu; subst hu; rfl) C7.out C8.out (Nat.zero_le _) (by decide) ?_)
     intro v9 w9 own9 hg9 hw9
     obtain ⟨ka', hD9⟩ := (D7.out.next ((Below.refl _ _).alloc (Nat.le_refl _) (.cells #[.int .u64 (z : Int)] 97))).pushA (z := z) (by simp; omega) (by rw [HNA.out]; exact own9) (by rw [HNA.out]; exact hg9) (by rw [HNA.out]; simpa using hw9)
     have D9 := Lib.hid hD9
     clear own9 hg9 hw9 hD9 OA AT D7 w1 w2u
     go_wp2_with fail
     go_roundw
     case rel => exact ⟨i + 1,T ++ [(l,ch)],a2,kv ++ ls,kl ++ gs,kg', ka', V ++ [.slice sl l.length dl],by go_num,by omega,RD2.out,by rw [HE2.out,HM.out]; go_num,by
      have h := D9.out
      have e1 : rplaces b n B a (i + 1 + 1) = rplaces b n B a (i + 1) ++ [z] := by
       rw [rplaces_succ]
       unfold rplace
       rw [RD2.out]
       dsimp only
       rw [HZ.out]
      rw [e1,List.map_append]
      exact h⟩
     case measure => simp [intOf]; omega
    ·have i2 : decide ((1048576 : Int) < (E : Int) + (m : Int)) = true := decide_eq_true (by omega)
     have SE := Lib.hid (NO.out (i + 1) _ _ _ _ _ _ _ _ _ _ _ w5 (by omega) (by unfold readB; rw [HRD.out,Option.bind_some]; dsimp only; rw [HO.out,Option.bind_some]; dsimp only; rw [HE2.out,HM.out,if_neg hE5]) D5.out)
     go_wp2_with fail
     with_reducible refine SE.out.mono ?_
     rintro e w6 ⟨rfl,h6⟩
     have H6 := Lib.hid h6
     clear h6 SE
     go_wp2_with fail
     exact bodyPost_ret (v := .tuple #[.slice none 0 0,.slice none 0 0,.int .i64 4]) (by simp [results,Tryz.results33,go_sem]) rfl H6.out
  · --B
   have hin2 : i = n := by omega
   have i1 : decide ((i : Int) < (n : Int)) = false := decide_eq_false (by omega)
   have HIN := Lib.hid hin2
   obtain ⟨nv,hnv⟩ : ∃ z,V.length = z := ⟨_,rfl⟩
   obtain ⟨na,hna⟩ : ∃ z,(rplaces b n B a (i + 1)).length = z := ⟨_,rfl⟩
   have HNV := Lib.hid hnv
   have HNA := Lib.hid hna
   rw [hnv,hna]
   clear hin2 hnv hna
   have FIN : Hid (BdP w wr pb rb s a ks (rplaces b n B a (n + 1)) (readB b n B a n) (.returned (.tuple #[.slice sg nv cg,.slice sa na ca,.int .i64 0])) w4) := Lib.hid (by
    have hrd := HRD.out
    rw [HIN.out] at hrd
    rw [hrd]
    have hg3 := HD.out.rows
    have hl1 := hg3.1
    rw [List.length_map,HTL.out] at hl1
    have hl2 : (rplaces b n B a (i + 1)).length = i + 1 := rplaces_length ..
    obtain ⟨s1,d1,e1,e2,e3⟩ := own_stG HD.out.og HD.out.hkg.1 (fun p hp => HD.out.nx.has (List.mem_append_right _ (List.mem_append_left _ hp))) hg3 (by rw [List.length_map,HTL.out]; omega)
    obtain ⟨s2,d2,e4,e5,e6⟩ := own_stU HD.out.oa HD.out.hka.1 (fun p hp => HD.out.nx.has (List.mem_append_right _ (List.mem_append_right _ (List.mem_append_left _ hp)))) (by rw [hl2]; omega)
    have e7 := own_stW e1 HD.out.og HD.out.hkg.1 (fun p hp => HD.out.nx.has (List.mem_append_right _ (List.mem_append_left _ hp))) hg3 HD.out.pln
    rw [HIN.out] at e4 e5 e6
    have hna := HNA.out
    rw [HIN.out] at hna
    refine ⟨_,_,kg ++ (ka ++ gs),s1,d1,s2,d2,rfl,HD.out.nx.fs.sub (fun p hp => ?_),HD.out.new,?_,?_,fun W' hW' => e3 W' (fun p hp => hW' p ?_),e7.more (fun p hp => ?_),?_,?_,fun W' hW' => e6 W' (fun p hp => hW' p ?_)⟩
    ·rw [<- HK1.out]
     simp only [List.mem_append,List.mem_cons] at hp ⊢
     rcases hp with (hp | hp | hp) | hp
     ·exact .inl hp
     ·exact .inr (.inl hp)
     ·exact .inr (.inr (.inl hp))
     ·exact .inr (.inr (.inr (.inr hp)))
    ·rw [<- HNV.out,e1,List.length_map]
    ·rw [List.length_map] at e2; exact e2
    ·simp only [List.mem_append] at hp ⊢
     rcases hp with hp | hp
     ·exact .inl hp
     ·exact .inr (.inr hp)
    ·simp only [List.mem_append] at hp ⊢
     rcases hp with hp | hp
     ·exact .inl hp
     ·exact .inr (.inr hp)
    ·rw [<- hna,e4]
    ·exact e5
    ·simp only [List.mem_append]
     exact .inr (.inl hp))
   go_wp2_with fail
   exact bodyPost_ret (v := .tuple #[.slice sg nv cg,.slice sa na ca,.int .i64 0]) (by simp [results,Tryz.results33,go_sem]) rfl FIN.out
def SeenG (w : World) (ks : List (Nat × Obj)) (a : Option Addr) (G : List (List Nat)) : Prop :=
 G.length <= 4611686018427387903 /\ ∀ i (h : i < G.length),∃ g o s d,a = some ⟨g,o,none⟩ /\ G[i].length <= d /\ Seen w ks s G[i] /\ ∀ W : World,Below w.heap.size w W -> (∀ p ∈ ks,W.heap[p.1]? = some p.2) -> g < W.heap.size /\ W.cell? ⟨g,o + i,none⟩ = some (.slice s G[i].length d)
theorem SeenG.lls {w W : World} {ks : List (Nat × Obj)} {a : Option Addr} {G : List (List Nat)} (h : SeenG w ks a G) (k : Below w.heap.size w W) (hk : ∀ p ∈ ks, W.heap[p.1]? = some p.2) : LLs W a G :=
 ⟨h.1,fun i hi => by
  obtain ⟨g,o,s,d,h1,h2,h3,h4⟩ := h.2 i hi
  obtain ⟨h5,h6⟩ := h4 W k hk
  exact ⟨g,o,s,d,h1,h5,h6,h2,h3 W k hk⟩⟩
def EncP (w : World) (b : Bp) (G : List (List Nat)) (ks : List (Nat × Obj)) (e : Ending) (w' : World) : Prop :=
 ∃ va kb wb ls,e = .returned (.tuple #[.string (txt (packN (stB b G).2)),va,.int .i64 0]) /\ EA w b (stB b G).1 wb (edges G) (stB b G).2 kb ls ks va (atB b G (G.length + 1)) w'
set_option maxRecDepth 100000 in
set_option maxHeartbeats 6400000 in
theorem benc_yes {w W : World} {ks : List (Nat × Obj)} (b : Bp) (a : Option Addr) (G : List (List Nat)) (cap : Nat) (h : FS w none none ks W) (hG : GL w) (hb : BpOk (b.p.win : Int) (b.depth : Int) (b.p.itv : Int) (b.p.zet : Int) (b.cap : Int)) (hbp : b.p.ok) (hA : SeenG w ks a G)
  (hn : G.length <= 65536) (hr : ∀ l ∈ G,Ris l) (hv : ∀ l ∈ G,∀ v ∈ l,v < G.length) (hE : edges G <= 1048576) :
  Calls Tryz.prog 22 #[.slice a G.length cap,bpV (b.p.win : Int) (b.depth : Int) (b.p.itv : Int) (b.p.zet : Int) (b.cap : Int)] W (EncP w b G ks) := by
 obtain ⟨j0,hj,hj0,hj1,hj2⟩ := info_parts Tryz.infoU64
 have hdp : b.depth <= 16 := by have := hb.2.2.1; omega
 have HS := Lib.hid (fun i (hi : i <= G.length) => stB_len hbp G hr hn i hi)
 have HE := Lib.hid (fun i => Nat.le_trans (edges_take_le G i) hE)
 have HGR := Lib.hid (fun W' (k : LLs W' a G) => graph_yes W' a G cap k hn hr hv hE)
 have NW := Lib.hid (fun ks' W' (h' : FS w none none ks' W') => bnew_yes b hb h')
 have HA := Lib.hid hA
 have HRI := Lib.hid hr
 have H := Lib.hid h
 obtain ⟨n,hnn⟩ : ∃ n,G.length = n := ⟨_,rfl⟩
 have HN := Lib.hid hnn
 rw [hnn] at hn HGR ⊢
 clear hA hr hv hnn hE h hb
 unfold bpV at NW ⊢
 go_enter Tryz.func22,Tryz.ntmps22
 go_wp2_with fail
 have F1 := H.out.add #[.int .i64 (b.p.win : Int),.int .i64 (b.depth : Int),.int .i64 (b.p.itv : Int),.int .i64 (b.p.zet : Int),.int .i64 (b.cap : Int)] 61
 with_reducible refine (NW.out _ _ (F1.sub (fun p hp => List.mem_cons_of_mem _ hp))).mono ?_
 rintro e w2 ⟨kb,wb,rfl,hK⟩
 have K2 := Lib.hid hK
 have GA := Lib.hid (HGR.out w2 (HA.out.lls hK.below (fun p hp => hK.has hp)))
 clear hK F1 NW HGR
 go_wp2_with fail
 with_reducible refine GA.out.mono ?_
 rintro e w3 ⟨rfl,rfl⟩
 have A0 := Lib.hid (EA.start K2.out)
 go_upto_region 5 with fail
 have hn9 := HA.out.1
 generalize hW3 : World.alloc w2 _ = w3 at A0 ⊢
 obtain ⟨v0,hv0⟩ : ∃ v,Value.slice (some ⟨w2.heap.size,0,none⟩) 1 1 = v := ⟨_,rfl⟩
 rw [hv0] at A0
 have HV0 := Lib.hid hv0
 clear hW3 GA H
 rw [hv0]
 clear hv0
 go_wp2_with fail
 go_loopw [9,31] (fun v9 v31 wr => ∃ (i : Nat) (ls : List (Nat × Obj)),v31 = .int .i64 (i : Int) /\ i <= n /\ EA w b (stB b (G.take i)).1 wb (edges (G.take i)) (stB b (G.take i)).2 kb ls ks v9 (atB b G (i + 1)) wr) (fun _ v31 _ => n - (intOf v31).toNat)
 case atStart =>
  refine ⟨0,[],rfl,Nat.zero_le _,?_⟩
  have h0 := A0.out
  rw [List.take_zero]
  exact h0
 case round =>
  obtain ⟨i,ls,rfl,hi,hEA⟩ := hrel
  rename World => wr
  have HEA := Lib.hid hEA
  obtain ⟨s9,d9,rfl⟩ := own_shape hEA.1
  clear hEA A0
  by_cases hlt : i < n
  ·have hiG : i < G.length := by rw [HN.out]; exact hlt
   obtain ⟨_,e1⟩ := stB_at b G i hiG
   obtain ⟨e1,e2⟩ := e1
   obtain ⟨g,o,s,d,rfl,hd,hsee,hcell⟩ := HA.out.2 i hiG
   obtain ⟨-,hc⟩ := hcell wr HEA.out.below (fun p hp => HEA.out.has hp)
   have hril := HRI.out _ (List.getElem_mem hiG)
   have hTl : (stB b (G.take i)).1.length = i := by rw [stB_length,List.length_take]; omega
   have hTO : TOk (stB b (G.take i)).1 := stB_ok b _ (fun l hl => HRI.out l (List.mem_of_mem_take hl))
   have hES : edges (G.take (i + 1)) = edges (G.take i) + G[i].length := by rw [List.take_succ_eq_append_getElem hiG,edges_snoc]
   have hE1 := HE.out (i + 1)
   have hl1 := HS.out (i + 1) (by omega)
   rw [e2] at hl1
   have hl2 : (stB b (G.take i)).2.length + (addB b (stB b (G.take i)).1 G[i]).length <= 134217728 := by
    have : ((stB b (G.take i)).2 ++ addB b (stB b (G.take i)).1 G[i]).length <= 120 * (i + 1) + 80 * edges (G.take (i + 1)) := hl1
    rw [List.length_append] at this
    omega
   have AD := Lib.hid (HEA.out.add hG hbp hdp (by omega) hril hTO hd hsee (by omega) hl2)
   have HE2 : Hid ((stB b (G.take (i + 1))) = runB b (stB b (G.take i)) G[i] /\ edges (G.take (i + 1)) = edges (G.take i) + G[i].length) := Lib.hid ⟨e2,hES⟩
   obtain ⟨l,hl⟩ : ∃ l,G[i] = l := ⟨_,rfl⟩
   have hm65 := hril.len
   rw [hl] at AD HE2 hc hl2 hm65
   obtain ⟨T,hT⟩ : ∃ T,stB b (G.take i) = T := ⟨_,rfl⟩
   have HT := Lib.hid hT
   rw [hT] at AD HE2 hl2
   obtain ⟨m,hm⟩ : ∃ m,l.length = m := ⟨_,rfl⟩
   have HM := Lib.hid hm
   rw [hm] at hc hm65
   rw [hm] at AD
   have i1 : decide ((i : Int) < (n : Int)) = true := decide_eq_true (by omega)
   clear e1 e2 hd hsee hcell hril hTl hTO hES hE1 hl1 hT hm hl
   go_wp2_with fail
   with_reducible refine AD.out.mono ?_
   rintro e w5 ⟨rfl,ls5,hE5⟩
   have E5 := Lib.hid hE5
   have BI := Lib.hid (hE5.bits (by rw [List.length_append]; omega))
   obtain ⟨lb,hlb⟩ : ∃ z,(T.2 ++ addB b T.1 l).length = z := ⟨_,rfl⟩
   have HLB := Lib.hid hlb
   have hlb9 : lb <= 134217728 := by rw [<- hlb,List.length_append]; exact hl2
   rw [hlb] at BI
   clear hE5 AD hlb
   go_wp2_with fail
   with_reducible refine BI.out.mono ?_
   rintro e w6 ⟨rfl,hE6⟩
   have E6 := Lib.hid hE6
   have uw : IntKind.u64.wrap (lb : Int) = (lb : Int) := IntWalk.u64_in _ (by omega)
   clear hE6 BI
   have AT : Hid (atB b G (i + 1 + 1) = atB b G (i + 1) ++ [lb]) := Lib.hid (by rw [atB_succ,HE2.out.1]; show _ ++ [(T.2 ++ addB b T.1 l).length] = _; rw [HLB.out])
   have hna : (atB b G (i + 1)).length = i + 1 := by unfold atB; rw [List.length_map,List.length_range]
   have HNA := Lib.hid hna
   obtain ⟨na,hna2⟩ : ∃ z,(atB b G (i + 1)).length = z := ⟨_,rfl⟩
   have HNA2 := Lib.hid hna2
   have hna9 : na <= 65537 := by omega
   have C3 : Hid (na + 1 <= maxLen) := Lib.hid (by simp only [maxLen]; omega)
   have C4 : Hid ((na + 1) * 8 <= 140737488355328) := Lib.hid (by omega)
   have OA : Hid ((w6.alloc (.cells #[.int .u64 (lb : Int)] 97)).ownsRow 0 97 1 (.slice s9 na d9) na (u64V (atB b G (i + 1)))) := Lib.hid (by
    have h := E6.out.1.alloc (.cells #[.int .u64 (lb : Int)] 97)
    rw [hna2] at h
    exact h)
   rw [hna2] at E6 HEA ⊢
   clear hna hna2 E5 HEA
   go_wp2_with (at_builtin; refine wpList_append_at _ rfl _ _ 58 rfl 0 97 j0 _ 1 8 Tryz.underlying58 hj hj0 hj1 hj2 rfl (by decide) _ na _ rfl OA.out ⟨w6.heap.size,0,none⟩ 1 1 [.int .u64 (lb : Int)] rfl rfl (cell_one_new _ _ _) (fun u hu => by simp at hu; subst hu; rfl) C3.out C4.out (Nat.zero_le _) (by decide) ?_)
   intro v7 w7 own7 hg7 hw7
   have E7 : Hid (EA w b (stB b (G.take (i + 1))).1 wb (edges (G.take (i + 1))) (stB b (G.take (i + 1))).2 kb ls5 ks v7 (atB b G (i + 1 + 1)) w7) := Lib.hid (by
    rw [AT.out,HE2.out.1,HE2.out.2,HM.out]
    exact E6.out.push _ lb (by rw [HNA2.out]; exact own7) hg7 (by simpa using hw7))
   clear own7 hg7 hw7 OA E6
   go_wp2_with fail
   go_roundw
   case rel => exact ⟨i + 1,ls5,by go_num,by omega,E7.out⟩
   case measure => simp [intOf]; omega
  ·have hin : i = n := by omega
   have i1 : decide ((i : Int) < (n : Int)) = false := decide_eq_false (by omega)
   have TG : Hid (G.take i = G) := Lib.hid (List.take_of_length_le (by rw [HN.out]; omega))
   have HIN := Lib.hid hin
   rw [TG.out] at HEA
   have TX := Lib.hid HEA.out.text
   obtain ⟨na,hna⟩ : ∃ z,(atB b G (i + 1)).length = z := ⟨_,rfl⟩
   have HNA := Lib.hid hna
   obtain ⟨t,ht⟩ : ∃ t,txt (packN (stB b G).2) = t := ⟨_,rfl⟩
   have HTX := Lib.hid ht
   rw [ht] at TX
   rw [hna] at TX HEA ⊢
   clear hna ht hin
   go_wp2_with fail
   with_reducible refine TX.out.mono ?_
   rintro e w8 ⟨rfl,hE8⟩
   have E8 := Lib.hid hE8
   clear hE8 TX HEA
   go_wp2_with fail
   exact bodyPost_ret (v := .tuple #[.string t,.slice s9 na d9,.int .i64 0]) (by simp [results,Tryz.results22,go_sem]) rfl ⟨_,kb,wb,ls,by rw [HTX.out],by rw [HN.out,<- HIN.out]; exact E8.out⟩
def us : Bp := ⟨⟨7, 4, 3⟩, 3, 1024⟩
def G4 : List (List Nat) := [[1, 2, 3], [1, 2, 3], [1, 2, 3], []]
theorem lay_us (x : Nat) (hx : x = 1) : (lay x [1, 2, 3] [] 0 ⟨7, 4, 3⟩).length = 16 := by
 subst hx
 have e1 : leftOf [1,2,3] [] = [1,2,3] := by simp [leftOf,isIn]
 have e2 : rws 4 [1,2,3] = ([],[1,2,3]) := by
  rw [rws]
  simp [cons1,rws_nil]
 have e3 : nums 1 [1,2,3] [] 0 ⟨7,4,3⟩ = [(.gam,3),(.una,0),(.gam,0),(.zet 3,0),(.zet 3,0),(.zet 3,0)] := by
  unfold nums hdN tlN runN restN
  simp [e1,e2,lnm,znm,zig]
 unfold lay
 rw [e3]
 decide
theorem lay_us2 : (lay 1 [1, 2, 3] [1, 2, 3] 1 ⟨7, 4, 3⟩).length = 8 := by
 rw [lay_same 1 1 [1,2,3] _ (by simp) (by decide) (by decide)]
 decide
theorem put0 : putB us [] [1, 2, 3] = ([1, 2, 3], 0) := by
 have h : ∀ n,(pickN us [] [1,2,3] n) = pick0 us [] [1,2,3] := by
  intro n
  induction n with
  | zero => rfl
  | succ n ih =>
   rw [pickN_succ,ih]
   unfold stepB backB
   rw [if_neg (by simp)]
 unfold putB pickB
 rw [h]
 rfl
theorem add1 : (addB us [([1, 2, 3], 0)] [1, 2, 3]).length = 8 := by
 have h1 : pickN us [([1,2,3],0)] [1,2,3] 1 = (8,1,([1,2,3],0)) := by
  rw [pickN_succ]
  show stepB us [([1,2,3],0)] [1,2,3] (pick0 us [([1,2,3],0)] [1,2,3]) 1 = _
  unfold stepB
  have hb : backB us [([1,2,3],0)] 1 [1,2,3].length = some ([1,2,3],0) := by
   unfold backB
   rw [if_pos (by unfold tkMay tkOf us; simp)]
   rfl
  rw [hb]
  have l0 : (pick0 us [([1,2,3],0)] [1,2,3]).1 = 16 := lay_us 1 rfl
  have l1 : (lay [(([1,2,3],0) : Tk)].length [1,2,3] [1,2,3] 1 us.p).length = 8 := lay_us2
  dsimp only
  rw [l0,l1]
  rfl
 have h2 : ∀ n,pickN us [([1,2,3],0)] [1,2,3] (n + 1) = (8,1,([1,2,3],0)) := by
  intro n
  induction n with
  | zero => exact h1
  | succ n ih =>
   rw [pickN_succ,ih]
   unfold stepB backB
   rw [if_neg (by simp)]
 unfold addB pickB
 rw [show us.p.win = 6 + 1 from rfl,h2]
 exact lay_us2
theorem at4 : ∃ L1, (atB us G4 5)[1]? = some L1 ∧ (atB us G4 5)[2]? = some (L1 + 8) ∧ L1 + 8 ≤ 1000000 := by
 have e1 : stB us (G4.take 1) = runB us ([],[]) [1,2,3] := rfl
 have e2 : stB us (G4.take 2) = runB us (runB us ([],[]) [1,2,3]) [1,2,3] := rfl
 have l2 : (stB us (G4.take 2)).2.length = (stB us (G4.take 1)).2.length + 8 := by
  rw [e2,e1]
  unfold runB
  rw [List.length_append]
  dsimp only
  rw [put0]
  exact congrArg _ add1
 have h9 := stB_len (b := us) ⟨by decide,by decide,by decide,by decide⟩ G4 (by unfold G4 Ris; decide) (by decide) 2 (by decide)
 refine ⟨(stB us (G4.take 1)).2.length,rfl,?_,?_⟩
 ·rw [<- l2]
  rfl
 ·rw [<- l2]
  exact Nat.le_trans h9 (by decide)
theorem lv123 {W : World} {sb : Nat} (r : W.heap[sb]? = some (.cells #[.int .u32 1, .int .u32 2, .int .u32 3] 77 (0, 0))) : LV W (some ⟨sb, 0, none⟩) [1, 2, 3] := by
 refine ⟨by decide,fun i hi => ⟨sb,0,rfl,lt_of_block r,?_,?_⟩⟩
 ·have : i = 0 \/ i = 1 \/ i = 2 := by simp at hi; omega
  rcases this with rfl | rfl | rfl <;> · rw [cell_of_row _ _ _ _ _ _ r]; rfl
 ·have : i = 0 \/ i = 1 \/ i = 2 := by simp at hi; omega
  rcases this with rfl | rfl | rfl <;> simp
def r123 : Obj := .cells #[.int .u32 1, .int .u32 2, .int .u32 3] 77 (0, 0)
theorem seen4 {w : World} {ks : List (Nat × Obj)} {a b c g : Nat} (h1 : (a, r123) ∈ ks) (h2 : (b, r123) ∈ ks) (h3 : (c, r123) ∈ ks) (h4 : (g, Obj.cells #[.slice (some ⟨a, 0, none⟩) 3 3, .slice (some ⟨b, 0, none⟩) 3 3, .slice (some ⟨c, 0, none⟩) 3 3, .slice none 0 0] 34 (0, 0)) ∈ ks) : SeenG w ks (some ⟨g, 0, none⟩) G4 := by
 refine ⟨by decide,fun i hi => ?_⟩
 have hi4 : i < 4 := hi
 have row : ∀ W : World,(∀ p ∈ ks,W.heap[p.1]? = some p.2) -> W.heap[g]? = some (Obj.cells #[.slice (some ⟨a,0,none⟩) 3 3,.slice (some ⟨b,0,none⟩) 3 3,.slice (some ⟨c,0,none⟩) 3 3,.slice none 0 0] 34 (0,0)) := fun W hW => hW _ h4
 have : i = 0 \/ i = 1 \/ i = 2 \/ i = 3 := by omega
 rcases this with rfl | rfl | rfl | rfl
 ·exact ⟨g,0,some ⟨a,0,none⟩,3,rfl,by simp [G4],fun W _ hW => lv123 (hW _ h1),fun W _ hW => ⟨lt_of_block (row W hW),by rw [cell_of_row _ _ _ _ _ _ (row W hW)]; rfl⟩⟩
 ·exact ⟨g,0,some ⟨b,0,none⟩,3,rfl,by simp [G4],fun W _ hW => lv123 (hW _ h2),fun W _ hW => ⟨lt_of_block (row W hW),by rw [cell_of_row _ _ _ _ _ _ (row W hW)]; rfl⟩⟩
 ·exact ⟨g,0,some ⟨c,0,none⟩,3,rfl,by simp [G4],fun W _ hW => lv123 (hW _ h3),fun W _ hW => ⟨lt_of_block (row W hW),by rw [cell_of_row _ _ _ _ _ _ (row W hW)]; rfl⟩⟩
 ·exact ⟨g,0,none,0,rfl,by simp [G4],fun W _ hW => LV.nil,fun W _ hW => ⟨lt_of_block (row W hW),by rw [cell_of_row _ _ _ _ _ _ (row W hW)]; rfl⟩⟩
theorem usual2_any (w : World) : Calls Tryz.prog 25 #[] w fun e w' => e = .returned (.agg #[.int .i64 7, .int .i64 3, .int .i64 4, .int .i64 3, .int .i64 1024]) ∧ Below w.heap.size w w' := by
 go_enter Tryz.func25,Tryz.ntmps25
 go_wp2_with fail
 have r := heap_alloc_new w (.cells #[.int .i64 7,.int .i64 3,.int .i64 4,.int .i64 3,.int .i64 1024] 61)
 have kb : Below w.heap.size w (w.alloc (.cells #[.int .i64 7,.int .i64 3,.int .i64 4,.int .i64 3,.int .i64 1024] 61)) := (Below.refl _ _).alloc (Nat.le_refl _) _
 generalize World.alloc w _ = w1 at r kb ⊢
 have q0 : w1.cell? ⟨w.heap.size,0,none⟩ = some (.int .i64 7) := by rw [cell_of_row _ _ _ _ _ _ r]; rfl
 have q1 : w1.cell? ⟨w.heap.size,1,none⟩ = some (.int .i64 3) := by rw [cell_of_row _ _ _ _ _ _ r]; rfl
 have q2 : w1.cell? ⟨w.heap.size,2,none⟩ = some (.int .i64 4) := by rw [cell_of_row _ _ _ _ _ _ r]; rfl
 have q3 : w1.cell? ⟨w.heap.size,3,none⟩ = some (.int .i64 3) := by rw [cell_of_row _ _ _ _ _ _ r]; rfl
 have q4 : w1.cell? ⟨w.heap.size,4,none⟩ = some (.int .i64 1024) := by rw [cell_of_row _ _ _ _ _ _ r]; rfl
 exact bodyPost_ret (v := .agg #[.int .i64 7,.int .i64 3,.int .i64 4,.int .i64 3,.int .i64 1024]) (by simp [results,Tryz.results25,go_sem,q0,q1,q2,q3,q4]) rfl ⟨rfl,kb⟩
theorem EncP.fs2 {w w' : World} {b : Bp} {G : List (List Nat)} {ks : List (Nat × Obj)} {e : Ending} (h : EncP w b G ks e w') (hn : G.length ≤ 65536) :
  ∃ sa da ka,e = .returned (.tuple #[.string (txt (packN (stB b G).2)),.slice sa (G.length + 1) da,.int .i64 0]) /\ FS w none none (ka ++ ks) w' /\ G.length + 1 <= da /\ StU ka sa (atB b G (G.length + 1)) := by
 obtain ⟨va,kb,wb,ls,rfl,own,ka,h2,h3,h4,h5⟩ := h
 have hl : (atB b G (G.length + 1)).length = G.length + 1 := by unfold atB; rw [List.length_map,List.length_range]
 have f : FS w none none (ka ++ ks) w' := by
  obtain ⟨row,h6,_⟩ := h2
  obtain ⟨x,hf,hw,hr,hk⟩ := h6.sub (ks' := ka ++ ks) (fun p hp => List.mem_cons_of_mem _ (List.mem_append_right _ hp))
  exact ⟨x,hf,fun q e => (by cases e),hr,hk⟩
 obtain ⟨sa,da,e1,e2,e3⟩ := own_stU own h3 (fun p hp => f.row (b := p.1) (o := p.2) (List.mem_append_left _ hp)) (by rw [hl]; omega)
 rw [hl] at e1 e2
 exact ⟨sa,da,ka,by rw [e1],f,e2,e3⟩
set_option maxRecDepth 100000 in
set_option maxHeartbeats 3200000 in
theorem awake14_any (w : World) (hG : GL w) : Calls Tryz.prog 32 #[] w fun e w' => e = .returned (.bool true) ∧ Below w.heap.size w w' := by
 have G0 := Lib.hid hG
 obtain ⟨a,ha⟩ : ∃ z,w.heap.size = z := ⟨_,rfl⟩
 have f1 := (FS.start w).add #[.int .u32 1,.int .u32 2,.int .u32 3] 77
 have f2 := f1.add #[.int .u32 1,.int .u32 2,.int .u32 3] 77
 have f3 := f2.add #[.int .u32 1,.int .u32 2,.int .u32 3] 77
 have f4 := f3.add #[.slice (some ⟨a,0,none⟩) 3 3,.slice (some ⟨a + 1,0,none⟩) 3 3,.slice (some ⟨a + 1 + 1,0,none⟩) 3 3,.slice none 0 0] 34
 have z1 : (w.alloc (.cells #[.int .u32 1,.int .u32 2,.int .u32 3] 77)).heap.size = a + 1 := by simp [ha]
 have z2 : ((w.alloc (.cells #[.int .u32 1,.int .u32 2,.int .u32 3] 77)).alloc (.cells #[.int .u32 1,.int .u32 2,.int .u32 3] 77)).heap.size = a + 1 + 1 := by simp [ha]
 have z3 : (((w.alloc (.cells #[.int .u32 1,.int .u32 2,.int .u32 3] 77)).alloc (.cells #[.int .u32 1,.int .u32 2,.int .u32 3] 77)).alloc (.cells #[.int .u32 1,.int .u32 2,.int .u32 3] 77)).heap.size = a + 1 + 1 + 1 := by simp [ha]
 rw [z3,z2,z1,ha] at f4
 obtain ⟨ks,hks⟩ : ∃ z,(a + 1 + 1 + 1,Obj.cells #[.slice (some ⟨a,0,none⟩) 3 3,.slice (some ⟨a + 1,0,none⟩) 3 3,.slice (some ⟨a + 1 + 1,0,none⟩) 3 3,.slice none 0 0] 34 (0,0)) :: (a + 1 + 1,Obj.cells #[.int .u32 1,.int .u32 2,.int .u32 3] 77 (0,0)) :: (a + 1,Obj.cells #[.int .u32 1,.int .u32 2,.int .u32 3] 77 (0,0)) :: (a,Obj.cells #[.int .u32 1,.int .u32 2,.int .u32 3] 77 (0,0)) :: [] = z := ⟨_,rfl⟩
 rw [hks] at f4
 have SE : Hid (SeenG w ks (some ⟨a + 1 + 1 + 1,0,none⟩) G4) := Lib.hid (seen4 (a := a) (b := a + 1) (c := a + 1 + 1) (by rw [<- hks]; simp [r123]) (by rw [<- hks]; simp [r123]) (by rw [<- hks]; simp [r123]) (by rw [<- hks]; simp))
 clear f1 f2 f3 z1 z2 z3 hks hG
 go_enter Tryz.func32,Tryz.ntmps32
 go_upto_region 2 with fail
 generalize World.alloc (World.alloc (World.alloc (World.alloc w _) _) _) _ = w1 at f4 ⊢
 clear ha
 obtain ⟨g,hg⟩ : ∃ z,a + 1 + 1 + 1 = z := ⟨_,rfl⟩
 rw [hg] at SE ⊢
 have F4 := Lib.hid f4
 clear hg f4
 go_wp2_with fail
 with_reducible refine (usual2_any _).mono ?_
 rintro e w2 ⟨rfl,k2⟩
 have E2 : Hid (Calls Tryz.prog 22 #[.slice (some ⟨g,0,none⟩) 4 4,.agg #[.int .i64 7,.int .i64 3,.int .i64 4,.int .i64 3,.int .i64 1024]] w2 (EncP w us G4 ks)) := Lib.hid (benc_yes us (some ⟨g,0,none⟩) G4 4 (F4.out.next k2) G0.out (by decide) ⟨by decide,by decide,by decide,by decide⟩ SE.out (by decide) (by unfold G4 Ris; decide) (by decide) (by decide))
 clear k2 F4
 go_wp2_with fail
 with_reducible refine E2.out.mono ?_
 rintro e w3 hE
 obtain ⟨sa,da,ka,rfl,f3,hda,hst⟩ := (show ∃ sa da ka,e = .returned (.tuple #[.string (txt (packN (stB us G4).2)),.slice sa 5 da,.int .i64 0]) /\ FS w none none (ka ++ ks) w3 /\ 5 <= da /\ StU ka sa (atB us G4 5) from hE.fs2 (by decide))
 have hsz := stB_len (b := us) ⟨by decide,by decide,by decide,by decide⟩ G4 (by unfold G4 Ris; decide) (by decide) 4 (by decide)
 obtain ⟨RR,hRR⟩ := text_back (stB us G4).2
 have hrb := readB_back (b := us) ⟨by decide,by decide,by decide,by decide⟩ G4 (by unfold G4 Ris; decide) (by decide) (by decide) (by decide) RR 4 (by decide)
 rw [<- hRR] at hrb
 have htz : (txt (packN (stB us G4).2)).size <= 1000000 := by
  rw [txt_size,packN_length]
  have h9 : (stB us G4).2.length <= 120 * 4 + 80 * edges (G4.take 4) := hsz
  have : edges (G4.take 4) <= 100 := by decide
  omega
 obtain ⟨tx,htx⟩ : ∃ t,txt (packN (stB us G4).2) = t := ⟨_,rfl⟩
 rw [htx] at hrb htz ⊢
 obtain ⟨q,hq,hq1⟩ : ∃ q,readB us 4 (unpack (nats tx)) 0 4 = some q /\ q.1.map (·.1) = G4 := ⟨_,hrb,stB_map us G4⟩
 have ST := Lib.hid hst
 have O3 := Lib.hid (f3.open tx (by omega))
 have HQ := Lib.hid (And.intro hq hq1)
 clear hE f3 hst hsz hRR hrb htx hq hq1 E2
 go_wp2_with fail
 with_reducible refine O3.out.mono ?_
 rintro e w4 ⟨rb,rfl,h4⟩
 have F5 := Lib.hid h4
 clear h4 O3
 go_wp2_with fail
 with_reducible refine (usual2_any _).mono ?_
 rintro e w5 ⟨rfl,k5⟩
 have h5 := bdec_any (F5.out.next k5) G0.out us (by decide) ⟨by decide,by decide,by decide,by decide⟩ 4 (by decide)
 rw [HQ.out.1] at h5
 have D5 : Hid (Calls Tryz.prog 33 #[.pointer (some ⟨rb,0,none⟩),.int .i64 4,.agg #[.int .i64 7,.int .i64 3,.int .i64 4,.int .i64 3,.int .i64 1024]] w5 (BdP w none w5.heap.size rb tx 0 (ka ++ ks) (rplaces us 4 (unpack (nats tx)) 0 5) (some q))) := Lib.hid h5
 clear h5 k5 F5
 go_wp2_with fail
 with_reducible refine D5.out.mono ?_
 rintro e w6 ⟨vg,va,kx,sg,dg,sp,dp,rfl,f6,-,rfl,hdg,hsg,-,rfl,hdp,-⟩
 have hql : q.1.length = 4 := by
  have := congrArg List.length HQ.out.2
  rw [List.length_map] at this
  exact this
 have F6 := Lib.hid f6
 have SG := Lib.hid hsg
 rw [hql]
 obtain ⟨L1,a1,a2,a3⟩ := at4
 obtain ⟨hUl,hU⟩ := ST.out w6 (fun p hp => f6.row (b := p.1) (o := p.2) (List.mem_append_right _ (List.mem_append_left _ hp)))
 obtain ⟨l1,e1⟩ := List.getElem?_eq_some_iff.1 a1
 obtain ⟨l2,e2⟩ := List.getElem?_eq_some_iff.1 a2
 obtain ⟨gA,oA,eA,hgA,hc1⟩ := hU 1 l1
 obtain ⟨gB,oB,eB,hgB,hc2⟩ := hU 2 l2
 rw [e1] at hc1
 rw [e2] at hc2
 subst eA
 injection eB with eB
 injection eB with eB1 eB2
 subst eB1 eB2
 have hlp : (rplaces us 4 (unpack (nats tx)) 0 5).length = 5 := rplaces_length ..
 rw [hlp]
 have MF : Hid (∀ W,Below w6.heap.size w6 W -> W.cell? ⟨gA,oA + 1,none⟩ = some (.int .u64 (L1 : Int)) /\ W.cell? ⟨gA,oA + 2,none⟩ = some (.int .u64 ((L1 + 8 : Nat) : Int)) /\ Below w6.heap.size w6 W) := Lib.hid (fun W k => ⟨(k.cell (p := ⟨gA,oA + 1,none⟩) hgA).trans hc1,(k.cell (p := ⟨gA,oA + 2,none⟩) hgA).trans hc2,k⟩)
 have SA : Hid (∀ W,Below w6.heap.size w6 W -> Calls Tryz.prog 35 #[.slice sg 4 dg,.slice (some ⟨g,0,none⟩) 4 4] W fun e w' => e = .returned (.bool true) /\ Below W.heap.size W w') := Lib.hid (fun W k => by
  have hW := F6.out.next k
  have h1 := SG.out W (fun p hp => hW.row (b := p.1) (o := p.2) (List.mem_append_left _ hp))
  rw [HQ.out.2] at h1
  exact alike_same W sg (some ⟨g,0,none⟩) G4 dg 4 h1 (SE.out.lls hW.below (fun p hp => hW.row (b := p.1) (o := p.2) (List.mem_append_right _ (List.mem_append_right _ hp)))))
 have w8 : IntKind.u64.wrap (((L1 + 8 : Nat) : Int) - (L1 : Int)) = 8 := by rw [IntWalk.u64_in _ (by omega)]; omega
 obtain ⟨L2,hL2⟩ : ∃ z,L1 + 8 = z := ⟨_,rfl⟩
 rw [hL2] at w8 MF
 obtain ⟨m1,m2,-⟩ := MF.out w6 (Below.refl _ _)
 have KX := Lib.hid (fun W W' (h : Below w6.heap.size w6 W) (k : Below W.heap.size W W') => h.trans (k.mono h.size))
 have KZ := Below.refl w6.heap.size w6
 have KB := Lib.hid f6.below
 clear f6 hsg hql a1 a2 a3 hUl hU e1 e2 hc1 hc2 hlp hgA hgB hL2 D5 l1 l2
 go_upto_region 4 with fail
 go_region_held3 (fun W => W.cell? ⟨gA,oA + 1,none⟩ = some (.int .u64 (L1 : Int)) /\ W.cell? ⟨gA,oA + 2,none⟩ = some (.int .u64 (L2 : Int)) /\ Below w6.heap.size w6 W)
  (first | exact MF.out _ (by assumption) | exact MF.out _ (Below.drew (by assumption)))
  (first
   | (go_at_call 35; (with_reducible refine (SA.out _ (by first | assumption | exact Below.drew (by assumption))).mono ?_); rintro e w7 ⟨rfl,k1⟩; have k7 := (by first | exact KX.out _ _ (by assumption) k1 | exact KX.out _ _ (Below.drew (by assumption)) k1 : Below w6.heap.size w6 w7)))
 have K7 := Lib.hid (KB.out.trans (k7.mono KB.out.size))
 clear k1 k7 KZ
 go_wp2_with fail
 go_ret
 exact ⟨rfl,K7.out⟩
def BlV (w : World) (a : Option Addr) (l : Bits) : Prop := ∀ k (hk : k < l.length), ∃ g o, a = some ⟨g, o, none⟩ ∧ g < w.heap.size ∧ w.cell? ⟨g, o + k, none⟩ = some (.bool l[k])
theorem BlV.below {w w' : World} {a : Option Addr} {l : Bits} (h : BlV w a l) (k : Below w.heap.size w w') : BlV w' a l := fun i hi => by
 obtain ⟨g,o,h1,h2,h3⟩ := h i hi
 exact ⟨g,o,h1,Nat.lt_of_lt_of_le h2 k.size,(k.cell h2).trans h3⟩
theorem num_snoc (l : Bits) (i : Nat) (hi : i < l.length) : num (l.take (i + 1)) = 2 * num (l.take i) + (if l[i] then 1 else 0) := by
 rw [List.take_succ_eq_append_getElem hi,num_append]
 show num (l.take i) * 2 ^ 1 + num [l[i]] = _
 have : num [l[i]] = if l[i] then 1 else 0 := by simp [num]
 rw [this]
 omega
theorem num_take_lt (l : Bits) (i : Nat) (hi : i ≤ 63) : num (l.take i) < 9223372036854775808 := by
 have h := num_lt (l.take i)
 have h2 : (l.take i).length <= 63 := by rw [List.length_take]; omega
 exact Nat.lt_of_lt_of_le h (Nat.le_trans (Nat.pow_le_pow_right (by decide) h2) (by decide))
set_option maxRecDepth 100000 in
theorem Number_any (w : World) (a : Option Addr) (cap : Nat) (l : Bits) (hl : l.length ≤ 64) (h : BlV w a l) :
  Calls Tryz.prog 129 #[.slice a l.length cap] w fun e w' => e = .returned (.int .u64 (num l : Int)) /\ Below w.heap.size w w' := by
 have H := Lib.hid h
 obtain ⟨n,hn⟩ : ∃ z,l.length = z := ⟨_,rfl⟩
 have HN := Lib.hid hn
 rw [hn] at hl ⊢
 clear h hn
 go_enter Tryz.func129,Tryz.ntmps129
 go_wp2_with fail
 go_loopw [3,4] (fun v2 v3 wr => ∃ i : Nat,v3 = .int .i64 (i : Int) /\ i <= n /\ v2 = .int .u64 (num (l.take i) : Int) /\ Below w.heap.size w wr) (fun _ v3 _ => n - (intOf v3).toNat)
 case atStart => exact ⟨0,rfl,Nat.zero_le _,rfl,Below.refl _ _⟩
 case round =>
  obtain ⟨i,rfl,hi,rfl,hb⟩ := hrel
  by_cases hlt : i < n
  ·obtain ⟨g,o,rfl,hg,hc⟩ := H.out i (by rw [HN.out]; exact hlt)
   have cw := (hb.cell hg).trans hc
   have hs := num_snoc l i (by rw [HN.out]; exact hlt)
   have ht := num_take_lt l i (by omega)
   obtain ⟨q,hq⟩ : ∃ q,num (l.take i) = q := ⟨_,rfl⟩
   rw [hq] at hs ht ⊢
   have HS := Lib.hid hs
   have u1 : IntKind.u64.wrap (2 * (q : Int)) = 2 * (q : Int) := IntWalk.u64_in _ (by omega)
   have u2 : IntKind.u64.wrap (2 * (q : Int) + 1) = 2 * (q : Int) + 1 := IntWalk.u64_in _ (by omega)
   generalize (l[i]'(by rw [HN.out]; exact hlt)) = c at *
   clear hs hc hq
   cases c
   ·go_wp2_with fail
    go_roundw
    case rel => exact ⟨i + 1,by go_num,by omega,by rw [HS.out]; simp,hb⟩
    case measure => simp [intOf]; try omega
   ·go_wp2_with fail
    go_roundw
    case rel => exact ⟨i + 1,by go_num,by omega,by rw [HS.out]; simp,hb⟩
    case measure => simp [intOf]; try omega
  ·obtain rfl : i = n := by omega
   have e : l.take i = l := List.take_of_length_le (by rw [HN.out]; exact Nat.le_refl _)
   rw [e] at *
   have HB := Lib.hid hb
   go_wp2_with fail
   go_ret
   exact ⟨rfl,HB.out⟩
end Go.Proofs.YtflnpcgnenhogaaGreatDoor.ls
