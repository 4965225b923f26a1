/- Own lemmas, laid together. -/
import Derived.Test.YtflnpcgnenhogaaGreatDoorBd28
import Derived.Test.YtflnpcgnenhogaaGreatDoorBd23
import Derived.Test.YtflnpcgnenhogaaGreatDoorBd1
namespace Go.Proofs.YtflnpcgnenhogaaGreatDoor.ls
open Go.RowKit Go.Proofs.YtflnpcgnenhogaaGreatDoor.own Go.Proofs.YtflnpcgnenhogaaGreatDoor.bit

def RE (x : Nat → Nat) (d t u : Nat) (w : World) (rb : Nat) (s : ByteArray) (a : Nat) (ks : List (Nat × Obj)) (W : World) : Prop :=
 ∃ x', Fr x x' (fun e => e = d \/ e = t \/ e = u) w W /\ RdC x' d W rb s a /\ ∀ p ∈ ks,x' p.1 = u /\ W.heap[p.1]? = some p.2
theorem RE.start {x : Nat → Nat} {d t u : Nat} {w W : World} {rb a : Nat} {s : ByteArray} (h : RdC x d w rb s a) (k : Below w.heap.size w W) (ks : List (Nat × Obj)) (hk : ∀ p ∈ ks, w.heap.size ≤ p.1 ∧ W.heap[p.1]? = some p.2) : RE x d t u w rb s a ks W := by
 obtain ⟨h1,h2,h3⟩ := h
 have f2 : Fr x (paint x w.heap.size u) (fun e => e = u) w W := Fr.of_below k rfl
 exact ⟨_,f2.mono (fun c hc => .inr (.inr hc)),⟨(k.block _ (lt_of_block h1)).trans h1,(paint_old (lt_of_block h1)).trans h2,h3⟩,fun p hp => ⟨paint_new (hk p hp).1,(hk p hp).2⟩⟩
theorem RE.row {x : Nat → Nat} {d t u : Nat} {w W : World} {rb a : Nat} {s : ByteArray} {ks : List (Nat × Obj)} (h : RE x d t u w rb s a ks W) {b : Nat} {o : Obj} (hm : (b, o) ∈ ks) : W.heap[b]? = some o := by
 obtain ⟨x', _,_,hk⟩ := h
 exact (hk _ hm).2
theorem RE.le {x : Nat → Nat} {d t u : Nat} {w W : World} {rb a : Nat} {s : ByteArray} {ks : List (Nat × Obj)} (h : RE x d t u w rb s a ks W) : a ≤ 8 * s.size := by
 obtain ⟨x', _,hr,_⟩ := h
 exact hr.2.2.1
theorem RE.next {x : Nat → Nat} {d t u : Nat} {w W W' : World} {rb a : Nat} {s : ByteArray} {ks : List (Nat × Obj)} (h : RE x d t u w rb s a ks W) (k : Below W.heap.size W W') : RE x d t u w rb s a ks W' := by
 obtain ⟨x', hf,⟨h1,h2,h3⟩,hk⟩ := h
 have f2 : Fr x' (paint x' W.heap.size u) (fun e => e = u) W W' := Fr.of_below k rfl
 refine ⟨_,hf.trans (f2.mono (fun c hc => .inr (.inr hc))),⟨(k.block _ (lt_of_block h1)).trans h1,(paint_old (lt_of_block h1)).trans h2,h3⟩,fun p hp => ?_⟩
 obtain ⟨h4,h5⟩ := hk p hp
 exact ⟨(paint_old (lt_of_block h5)).trans h4,(k.block _ (lt_of_block h5)).trans h5⟩
theorem RE.at_ {x : Nat → Nat} {d t u : Nat} {w W : World} {rb a : Nat} {s : ByteArray} {ks : List (Nat × Obj)} (h : RE x d t u w rb s a ks W) :
  Calls Tryz.prog 14 #[.pointer (some ⟨rb,0,none⟩)] W fun e w' => e = .returned (.int .i64 (a : Int)) /\ W = w' := by
 obtain ⟨x', _,hr,_⟩ := h
 exact At_any x' d W rb s a hr
theorem RE.read {x : Nat → Nat} {d t u : Nat} (hdt : d ≠ t) (hdu : d ≠ u) (htu : t ≠ u) {w W : World} {rb a : Nat} {s : ByteArray} {ks : List (Nat × Obj)} (h : RE x d t u w rb s a ks W) (c : Cd) (hc : c.ok) :
  Calls Tryz.prog 46 #[.pointer (some ⟨rb,0,none⟩),cdV c] W fun e w' => e = .returned (rdV (rd c ((unpack (nats s)).drop a))) /\ RE x d t u w rb s (rdA a (rd c ((unpack (nats s)).drop a))) ks w' := by
 obtain ⟨x', hf,hr,hk⟩ := h
 refine (cread_any x' d t hdt c hc W rb s a hr).mono ?_
 rintro e w' ⟨rfl,x2,f2,h2⟩
 refine ⟨rfl,x2,hf.trans (f2.mono (fun c hc => by rcases hc with h | h; exact .inl h; exact .inr (.inl h))),h2,fun p hp => ?_⟩
 obtain ⟨h1,h3⟩ := hk p hp
 exact ⟨(f2.col _ (lt_of_block h3)).trans h1,(f2.old _ (lt_of_block h3) (by show ¬ (x' p.1 = d \/ x' p.1 = t); rw [h1]; rintro (e | e); exact hdu e.symm; exact htu e.symm)).trans h3⟩
theorem RE.seek {x : Nat → Nat} {d t u : Nat} (hdu : d ≠ u) {w W : World} {rb a : Nat} {s : ByteArray} {ks : List (Nat × Obj)} (h : RE x d t u w rb s a ks W) (a0 : Nat) (ha : a0 ≤ 8 * s.size) :
  Calls Tryz.prog 9 #[.pointer (some ⟨rb,0,none⟩),.int .i64 (a0 : Int)] W fun e w' => e = .returned (.int .i64 0) /\ RE x d t u w rb s a0 ks w' := by
 obtain ⟨x', hf,hr,hk⟩ := h
 refine (Seek_any x' d s a a0 rb W hr ha).mono ?_
 rintro e w' ⟨rfl,f2,h2⟩
 refine ⟨rfl,x', hf.trans (f2.mono (fun c hc => .inl hc)),h2,fun p hp => ?_⟩
 obtain ⟨h1,h3⟩ := hk p hp
 exact ⟨h1,(f2.old _ (lt_of_block h3) (by show ¬ x' p.1 = d; rw [h1]; exact fun e => hdu e.symm)).trans h3⟩

theorem RE.set2 {x : Nat → Nat} {d t u : Nat} (hdu : d ≠ u) {w W : World} {rb a : Nat} {s : ByteArray} {ks : List (Nat × Obj)} (h : RE x d t u w rb s a ks W) {b : Nat} {v0 v1 : Value} {T : TypeId} (hm : (b, Obj.cells #[v0, v1] T (0, 0)) ∈ ks) (a0 a1 : Value) :
  RE x d t u w rb s a [(b,.cells #[a0,a1] T (0,0))] ((W.setCell ⟨b,0,none⟩ a0).setCell ⟨b,1,none⟩ a1) := by
 obtain ⟨x', hf,⟨hr1,hr2,hr3⟩,hk⟩ := h
 obtain ⟨hx,hb⟩ := hk _ hm
 have ne : ∀ c,c ≠ b -> ((W.setCell ⟨b,0,none⟩ a0).setCell ⟨b,1,none⟩ a1).heap[c]? = W.heap[c]? := fun c hc => (Below.heap_setCell _ ⟨b,1,none⟩ _ c hc).trans (Below.heap_setCell W ⟨b,0,none⟩ _ c hc)
 have f2 : Fr x' x' (fun c => c = u) W ((W.setCell ⟨b,0,none⟩ a0).setCell ⟨b,1,none⟩ a1) := Fr.same rfl rfl rfl (by simp) (fun c _ hd => ne c (fun e => hd (by rw [e]; exact hx)))
 refine ⟨x', hf.trans (f2.mono (fun c hc => .inr (.inr hc))),⟨(ne _ (fun e => by rw [e] at hr2; exact hdu (hr2.symm.trans hx))).trans hr1,hr2,hr3⟩,fun q hq => ?_⟩
 simp only [List.mem_cons,List.not_mem_nil,or_false] at hq
 subst hq
 refine ⟨hx,?_⟩
 show ((W.setCell ⟨b,0,none⟩ a0).setCell ⟨b,1,none⟩ a1).heap[b]? = _
 have h1 : (W.setCell ⟨b,0,none⟩ a0).heap[b]? = some (.cells #[a0,v1] T (0,0)) := by rw [heap_setCell_same W b 0 _ _ _ hb]; rfl
 rw [heap_setCell_same _ b 1 _ _ _ h1]
 rfl

def hread (win : Nat) (B : Bits) (a : Nat) : Option (Nat × Nat × Nat) :=
 (rd .gam (B.drop a)).bind fun q => if 0 < q.1 /\ 0 < win then (rd .una (B.drop (a + q.2))).bind fun q2 => if q.1 <= 65536 /\ q2.1 <= win then some (q.1,q2.1,a + q.2 + q2.2) else none
  else if q.1 <= 65536 then some (q.1,0,a + q.2) else none
def hrV : Option (Nat × Nat × Nat) → Value
 | some q => .tuple #[.agg #[.int .i64 (q.1 : Int),.int .i64 (q.2.1 : Int)],.int .i64 0]
 | none => .tuple #[.agg #[.int .i64 0,.int .i64 0],.int .i64 4]
def hrA (a : Nat) : Option (Nat × Nat × Nat) → Nat
 | some q => q.2.2
 | none => a
set_option maxRecDepth 100000 in
set_option maxHeartbeats 6400000 in
theorem head_any (x0 : Nat → Nat) (d t u : Nat) (hdt : d ≠ t) (hdu : d ≠ u) (htu : t ≠ u) (p : Pr) (hp : p.ok) (w : World) (hG : GL w) (hgl : x0 0 ≠ d ∧ x0 0 ≠ t ∧ x0 0 ≠ u ∧ x0 1 ≠ d ∧ x0 1 ≠ t ∧ x0 1 ≠ u) (rb : Nat) (s : ByteArray) (a : Nat) (h : RdC x0 d w rb s a) :
  Calls Tryz.prog 11 #[.pointer (some ⟨rb,0,none⟩),parV (p.win : Int) (p.itv : Int) (p.zet : Int)] w fun e w' =>
   e = .returned (hrV (hread p.win (unpack (nats s)) a)) /\ ∃ x', Fr x0 x' (fun e => e = d \/ e = t \/ e = u) w w' /\ RdC x' d w' rb s (hrA a (hread p.win (unpack (nats s)) a)) := by
 obtain ⟨hp1,hp2,hp3⟩ := hp
 have CK := Lib.hid (fun W => pcheck_any (p.win : Int) (p.itv : Int) (p.zet : Int) W)
 rw [if_pos (show ParOk (p.win : Int) (p.itv : Int) (p.zet : Int) from ⟨by omega,by omega,by omega,by omega,by omega⟩)] at CK
 have GF := Lib.hid (fun (W : World) (a' : Nat) (ks : List (Nat × Obj)) (h : RE x0 d t u w rb s a' ks W) => show GL W from by
  obtain ⟨x', hf,_⟩ := h
  have b0 : w.heap[0]? = w.heap[0]? := rfl
  have k0 := hf.old 0 (World.block_lt_of_cell? _ _ hG.g0) (by rintro (e | e | e); exact hgl.1 e; exact hgl.2.1 e; exact hgl.2.2.1 e)
  have k1 := hf.old 1 (World.block_lt_of_cell? _ _ hG.u0) (by rintro (e | e | e); exact hgl.2.2.2.1 e; exact hgl.2.2.2.2.1 e; exact hgl.2.2.2.2.2 e)
  exact ⟨(World.cell?_of_block (w := w) k0).trans hG.g0,(World.cell?_of_block (w := w) k0).trans hG.g1,(World.cell?_of_block (w := w) k1).trans hG.u0,(World.cell?_of_block (w := w) k1).trans hG.u1⟩)
 have D := Lib.hid (And.intro hdt (And.intro hdu htu))
 have H := Lib.hid h
 have HB := Lib.hid (fun v n a' (h : rd .gam ((unpack (nats s)).drop a') = some (v,n)) => rd_bound .gam trivial h)
 have HB2 := Lib.hid (fun v n a' (h : rd .una ((unpack (nats s)).drop a') = some (v,n)) => rd_bound .una trivial h)
 obtain ⟨B,hB⟩ : ∃ B,unpack (nats s) = B := ⟨_,rfl⟩
 have HBB := Lib.hid hB
 rw [hB] at HB HB2 ⊢
 have RDf := Lib.hid (fun (W : World) (a' : Nat) (ks : List (Nat × Obj)) (c : Cd) (hc : c.ok) (h : RE x0 d t u w rb s a' ks W) => h.read hdt hdu htu c hc)
 rw [hB] at RDf
 have ha := h.2.2.1
 obtain ⟨win,itv,zet⟩ := p
 unfold parV at CK ⊢
 dsimp only at hp1 hp2 hp3 CK ⊢
 obtain ⟨A,hA⟩ : ∃ A,hread win B a = A := ⟨_,rfl⟩
 have HA := Lib.hid hA
 rw [hA]
 clear hG hgl hdt hdu htu h hB hA
 go_enter Tryz.func11,Tryz.ntmps11
 go_upto_region 1 with fail
 generalize hW : World.alloc (World.alloc w _) _ = W0
 obtain ⟨r1,r2,kb⟩ := rows2 hW
 obtain ⟨sz,hsz⟩ : ∃ z,w.heap.size = z := ⟨_,rfl⟩
 have E0 := Lib.hid (RE.start (t := t) (u := u) H.out kb [(sz,.cells #[.int .i64 (win : Int),.int .i64 (itv : Int),.int .i64 (zet : Int)] 42 (0,0)),(sz + 1,.cells #[.int .i64 0,.int .i64 0] 39 (0,0))] (fun q hq => by
  simp only [List.mem_cons,List.not_mem_nil,or_false] at hq
  rcases hq with rfl | rfl
  ·exact ⟨by show w.heap.size <= sz; omega,hsz ▸ r1⟩
  ·exact ⟨by show w.heap.size <= sz + 1; omega,hsz ▸ r2⟩))
 rw [hsz] at r1 r2 ⊢
 obtain ⟨ks,hks⟩ : ∃ ks,ks = [(sz,Obj.cells #[.int .i64 (win : Int),.int .i64 (itv : Int),.int .i64 (zet : Int)] 42 (0,0)),(sz + 1,.cells #[.int .i64 0,.int .i64 0] 39 (0,0))] := ⟨_,rfl⟩
 have M1 : Hid ((sz,Obj.cells #[.int .i64 (win : Int),.int .i64 (itv : Int),.int .i64 (zet : Int)] 42 (0,0)) ∈ ks) := Lib.hid (by rw [hks]; simp)
 have M2 : Hid ((sz + 1,Obj.cells #[.int .i64 0,.int .i64 0] 39 (0,0)) ∈ ks) := Lib.hid (by rw [hks]; simp)
 rw [<- hks] at E0
 have c0 : W0.cell? ⟨sz,0,none⟩ = some (.int .i64 (win : Int)) := by rw [cell_of_row _ _ _ _ _ _ r1]; rfl
 have c1 : W0.cell? ⟨sz,1,none⟩ = some (.int .i64 (itv : Int)) := by rw [cell_of_row _ _ _ _ _ _ r1]; rfl
 have c2 : W0.cell? ⟨sz,2,none⟩ = some (.int .i64 (zet : Int)) := by rw [cell_of_row _ _ _ _ _ _ r1]; rfl
 clear hW r1 r2 kb hks hsz
 go_wp2_with fail
 with_reducible refine (CK.out _).mono ?_
 rintro e w1 ⟨rfl,k1⟩
 have E1 := Lib.hid (E0.out.next k1)
 clear c0 c1 c2 k1 E0
 go_wp2_with fail
 with_reducible refine E1.out.at_.mono ?_
 rintro e w2 ⟨rfl,rfl⟩
 have g1 := GF.out _ _ _ E1.out
 have gg0 := g1.g0
 have gg1 := g1.g1
 have RG := Lib.hid (RDf.out _ _ _ .gam trivial E1.out)
 clear g1
 obtain ⟨o1,ho1⟩ : ∃ o,rd .gam (B.drop a) = o := ⟨_,rfl⟩
 have HO1 := Lib.hid ho1
 rw [ho1] at RG
 unfold cdV at RG
 clear ho1
 go_wp2_with fail
 with_reducible refine RG.out.mono ?_
 rintro e w3 ⟨rfl,h3⟩
 have E3 := Lib.hid h3
 clear h3 gg0 gg1 RG E1
 cases o1 with
 | none =>
  have AN : Hid (A = none) := Lib.hid (by rw [<- HA.out]; unfold hread; rw [HO1.out]; rfl)
  unfold rdV
  have SK := Lib.hid (E3.out.seek D.out.2.1 a ha)
  go_wp2_with fail
  with_reducible refine SK.out.mono ?_
  rintro e w9 ⟨rfl,h4⟩
  have E4 := Lib.hid h4
  clear h4
  have r4 := E4.out.row M2.out
  have q0 : w9.cell? ⟨sz + 1,0,none⟩ = some (.int .i64 0) := by rw [cell_of_row _ _ _ _ _ _ r4]; rfl
  have q1 : w9.cell? ⟨sz + 1,1,none⟩ = some (.int .i64 0) := by rw [cell_of_row _ _ _ _ _ _ r4]; rfl
  have qf : ∀ j,w9.frozen? ⟨sz + 1,j,none⟩ = false := fun j => frozen_of_row w9 _ j _ _ r4
  clear r4
  go_wp2_with fail
  have E5 := Lib.hid (E4.out.set2 D.out.2.1 M2.out (.int .i64 0) (.int .i64 0))
  have r5 := E5.out.row (List.mem_cons_self ..)
  generalize World.setCell (World.setCell _ _ _) _ _ = W5 at r5 E5 ⊢
  have q0 : W5.cell? ⟨sz + 1,0,none⟩ = some (.int .i64 0) := by rw [cell_of_row _ _ _ _ _ _ r5]; rfl
  have q1 : W5.cell? ⟨sz + 1,1,none⟩ = some (.int .i64 0) := by rw [cell_of_row _ _ _ _ _ _ r5]; rfl
  rw [AN.out]
  refine bodyPost_ret (v := hrV none) (by simp [results,Tryz.results11,go_sem,hrV,q0,q1]) rfl ⟨rfl,?_⟩
  obtain ⟨x', hf,hr,_⟩ := E5.out
  exact ⟨x', hf,hr⟩
 | some q =>
  obtain ⟨v,n1⟩ := q
  have hv : v <= 281474976710654 := (HB.out _ _ _ HO1.out).1
  unfold rdV
  dsimp only [rdA] at E3 ⊢
  by_cases hc : 0 < v /\ 0 < win
  ·obtain ⟨hv0,hw0⟩ := hc
   have rc := E3.out.row M1.out
   have c0 : w3.cell? ⟨sz,0,none⟩ = some (.int .i64 (win : Int)) := by rw [cell_of_row _ _ _ _ _ _ rc]; rfl
   clear rc
   have g1 := GF.out _ _ _ E3.out
   have gu0 := g1.u0
   have gu1 := g1.u1
   clear g1
   have RU := Lib.hid (RDf.out _ _ _ .una trivial E3.out)
   obtain ⟨o2,ho2⟩ : ∃ o,rd .una (B.drop (a + n1)) = o := ⟨_,rfl⟩
   have HO2 := Lib.hid ho2
   rw [ho2] at RU
   unfold cdV at RU
   have AH : Hid (A = o2.bind fun q2 => if v <= 65536 /\ q2.1 <= win then some (v,q2.1,a + n1 + q2.2) else none) := Lib.hid (by rw [<- HA.out]; unfold hread; rw [HO1.out,Option.bind_some,if_pos ⟨hv0,hw0⟩]; dsimp only; rw [ho2])
   clear ho2
   have i1 : decide ((0 : Int) < (v : Int)) = true := decide_eq_true (by omega)
   have i1n : decide (0 < v) = true := decide_eq_true (by omega)
   have i2 : decide ((0 : Int) < (win : Int)) = true := decide_eq_true (by omega)
   have i2n : decide (0 < win) = true := decide_eq_true (by omega)
   go_wp2_with fail
   with_reducible refine RU.out.mono ?_
   rintro e w5 ⟨rfl,h5⟩
   have E6 := Lib.hid h5
   clear h5 RU gu0 gu1 c0 i1 i1n i2 i2n
   have rc := E6.out.row M1.out
   have c0 : w5.cell? ⟨sz,0,none⟩ = some (.int .i64 (win : Int)) := by rw [cell_of_row _ _ _ _ _ _ rc]; rfl
   clear rc
   cases o2 with
   | none =>
    have AN : Hid (A = none) := Lib.hid (by rw [AH.out]; rfl)
    unfold rdV
    have SK := Lib.hid (E6.out.seek D.out.2.1 a ha)
    go_wp2_with fail
    with_reducible refine SK.out.mono ?_
    rintro e w9 ⟨rfl,h4⟩
    have E4 := Lib.hid h4
    clear h4
    have r4 := E4.out.row M2.out
    have q0 : w9.cell? ⟨sz + 1,0,none⟩ = some (.int .i64 0) := by rw [cell_of_row _ _ _ _ _ _ r4]; rfl
    have q1 : w9.cell? ⟨sz + 1,1,none⟩ = some (.int .i64 0) := by rw [cell_of_row _ _ _ _ _ _ r4]; rfl
    have qf : ∀ j,w9.frozen? ⟨sz + 1,j,none⟩ = false := fun j => frozen_of_row w9 _ j _ _ r4
    clear r4
    go_wp2_with fail
    have E5 := Lib.hid (E4.out.set2 D.out.2.1 M2.out (.int .i64 0) (.int .i64 0))
    have r5 := E5.out.row (List.mem_cons_self ..)
    generalize World.setCell (World.setCell _ _ _) _ _ = W5 at r5 E5 ⊢
    have q0 : W5.cell? ⟨sz + 1,0,none⟩ = some (.int .i64 0) := by rw [cell_of_row _ _ _ _ _ _ r5]; rfl
    have q1 : W5.cell? ⟨sz + 1,1,none⟩ = some (.int .i64 0) := by rw [cell_of_row _ _ _ _ _ _ r5]; rfl
    rw [AN.out]
    refine bodyPost_ret (v := hrV none) (by simp [results,Tryz.results11,go_sem,hrV,q0,q1]) rfl ⟨rfl,?_⟩
    obtain ⟨x', hf,hr,_⟩ := E5.out
    exact ⟨x', hf,hr⟩
   | some q2 =>
    obtain ⟨r,n2⟩ := q2
    have hr : r <= 65535 := (HB2.out _ _ _ HO2.out).1
    unfold rdV
    dsimp only [rdA] at E6 ⊢
    by_cases hv6 : v <= 65536
    ·by_cases hrw : r <= win
     ·have AN : Hid (A = some (v,r,a + n1 + n2)) := Lib.hid (by rw [AH.out,Option.bind_some,if_pos ⟨hv6,hrw⟩])
      have i3 : decide ((65536 : Int) < (v : Int)) = false := decide_eq_false (by omega)
      have i3n : decide (65536 < v) = false := decide_eq_false (by omega)
      have i4 : decide ((win : Int) < (r : Int)) = false := decide_eq_false (by omega)
      have i4n : decide (win < r) = false := decide_eq_false (by omega)
      have r4 := E6.out.row M2.out
      have q0 : w5.cell? ⟨sz + 1,0,none⟩ = some (.int .i64 0) := by rw [cell_of_row _ _ _ _ _ _ r4]; rfl
      have q1 : w5.cell? ⟨sz + 1,1,none⟩ = some (.int .i64 0) := by rw [cell_of_row _ _ _ _ _ _ r4]; rfl
      have qf : ∀ j,w5.frozen? ⟨sz + 1,j,none⟩ = false := fun j => frozen_of_row w5 _ j _ _ r4
      clear r4
      go_wp2_with fail
      have E5 := Lib.hid (E6.out.set2 D.out.2.1 M2.out (.int .i64 (v : Int)) (.int .i64 (r : Int)))
      have r5 := E5.out.row (List.mem_cons_self ..)
      generalize World.setCell (World.setCell _ _ _) _ _ = W5 at r5 E5 ⊢
      have q0 : W5.cell? ⟨sz + 1,0,none⟩ = some (.int .i64 (v : Int)) := by rw [cell_of_row _ _ _ _ _ _ r5]; rfl
      have q1 : W5.cell? ⟨sz + 1,1,none⟩ = some (.int .i64 (r : Int)) := by rw [cell_of_row _ _ _ _ _ _ r5]; rfl
      rw [AN.out]
      refine bodyPost_ret (v := hrV (some (v,r,a + n1 + n2))) (by simp [results,Tryz.results11,go_sem,hrV,q0,q1]) rfl ⟨rfl,?_⟩
      obtain ⟨x', hf,hr,_⟩ := E5.out
      exact ⟨x', hf,hr⟩
     ·have AN : Hid (A = none) := Lib.hid (by rw [AH.out,Option.bind_some,if_neg (fun h => hrw h.2)])
      have i3 : decide ((65536 : Int) < (v : Int)) = false := decide_eq_false (by omega)
      have i3n : decide (65536 < v) = false := decide_eq_false (by omega)
      have i4 : decide ((win : Int) < (r : Int)) = true := decide_eq_true (by omega)
      have i4n : decide (win < r) = true := decide_eq_true (by omega)
      have SK := Lib.hid (E6.out.seek D.out.2.1 a ha)
      go_wp2_with fail
      with_reducible refine SK.out.mono ?_
      rintro e w9 ⟨rfl,h4⟩
      have E4 := Lib.hid h4
      clear h4
      have r4 := E4.out.row M2.out
      have q0 : w9.cell? ⟨sz + 1,0,none⟩ = some (.int .i64 0) := by rw [cell_of_row _ _ _ _ _ _ r4]; rfl
      have q1 : w9.cell? ⟨sz + 1,1,none⟩ = some (.int .i64 0) := by rw [cell_of_row _ _ _ _ _ _ r4]; rfl
      have qf : ∀ j,w9.frozen? ⟨sz + 1,j,none⟩ = false := fun j => frozen_of_row w9 _ j _ _ r4
      clear r4
      go_wp2_with fail
      have E5 := Lib.hid (E4.out.set2 D.out.2.1 M2.out (.int .i64 0) (.int .i64 0))
      have r5 := E5.out.row (List.mem_cons_self ..)
      generalize World.setCell (World.setCell _ _ _) _ _ = W5 at r5 E5 ⊢
      have q0 : W5.cell? ⟨sz + 1,0,none⟩ = some (.int .i64 0) := by rw [cell_of_row _ _ _ _ _ _ r5]; rfl
      have q1 : W5.cell? ⟨sz + 1,1,none⟩ = some (.int .i64 0) := by rw [cell_of_row _ _ _ _ _ _ r5]; rfl
      rw [AN.out]
      refine bodyPost_ret (v := hrV none) (by simp [results,Tryz.results11,go_sem,hrV,q0,q1]) rfl ⟨rfl,?_⟩
      obtain ⟨x', hf,hr,_⟩ := E5.out
      exact ⟨x', hf,hr⟩
    ·have AN : Hid (A = none) := Lib.hid (by rw [AH.out,Option.bind_some,if_neg (fun h => hv6 h.1)])
     have i3 : decide ((65536 : Int) < (v : Int)) = true := decide_eq_true (by omega)
     have i3n : decide (65536 < v) = true := decide_eq_true (by omega)
     have SK := Lib.hid (E6.out.seek D.out.2.1 a ha)
     go_wp2_with fail
     with_reducible refine SK.out.mono ?_
     rintro e w9 ⟨rfl,h4⟩
     have E4 := Lib.hid h4
     clear h4
     have r4 := E4.out.row M2.out
     have q0 : w9.cell? ⟨sz + 1,0,none⟩ = some (.int .i64 0) := by rw [cell_of_row _ _ _ _ _ _ r4]; rfl
     have q1 : w9.cell? ⟨sz + 1,1,none⟩ = some (.int .i64 0) := by rw [cell_of_row _ _ _ _ _ _ r4]; rfl
     have qf : ∀ j,w9.frozen? ⟨sz + 1,j,none⟩ = false := fun j => frozen_of_row w9 _ j _ _ r4
     clear r4
     go_wp2_with fail
     have E5 := Lib.hid (E4.out.set2 D.out.2.1 M2.out (.int .i64 0) (.int .i64 0))
     have r5 := E5.out.row (List.mem_cons_self ..)
     generalize World.setCell (World.setCell _ _ _) _ _ = W5 at r5 E5 ⊢
     have q0 : W5.cell? ⟨sz + 1,0,none⟩ = some (.int .i64 0) := by rw [cell_of_row _ _ _ _ _ _ r5]; rfl
     have q1 : W5.cell? ⟨sz + 1,1,none⟩ = some (.int .i64 0) := by rw [cell_of_row _ _ _ _ _ _ r5]; rfl
     rw [AN.out]
     refine bodyPost_ret (v := hrV none) (by simp [results,Tryz.results11,go_sem,hrV,q0,q1]) rfl ⟨rfl,?_⟩
     obtain ⟨x', hf,hr,_⟩ := E5.out
     exact ⟨x', hf,hr⟩
  ·have AH : Hid (A = if v <= 65536 then some (v,0,a + n1) else none) := Lib.hid (by rw [<- HA.out]; unfold hread; rw [HO1.out,Option.bind_some,if_neg hc])
   have rc := E3.out.row M1.out
   have c0 : w3.cell? ⟨sz,0,none⟩ = some (.int .i64 (win : Int)) := by rw [cell_of_row _ _ _ _ _ _ rc]; rfl
   clear rc
   have i5 : decide ((win : Int) < 0) = false := decide_eq_false (by omega)
   have i5n : decide (win < 0) = false := decide_eq_false (by omega)
   by_cases hv0 : 0 < v
   ·have hw0 : ¬ 0 < win := fun h => hc ⟨hv0,h⟩
    have i1 : decide ((0 : Int) < (v : Int)) = true := decide_eq_true (by omega)
    have i1n : decide (0 < v) = true := decide_eq_true (by omega)
    have i2 : decide ((0 : Int) < (win : Int)) = false := decide_eq_false (by omega)
    have i2n : decide (0 < win) = false := decide_eq_false (by omega)
    by_cases hv6 : v <= 65536
    ·have AN : Hid (A = some (v,0,a + n1)) := Lib.hid (by rw [AH.out,if_pos hv6])
     have i3 : decide ((65536 : Int) < (v : Int)) = false := decide_eq_false (by omega)
     have i3n : decide (65536 < v) = false := decide_eq_false (by omega)
     have r4 := E3.out.row M2.out
     have q0 : w3.cell? ⟨sz + 1,0,none⟩ = some (.int .i64 0) := by rw [cell_of_row _ _ _ _ _ _ r4]; rfl
     have q1 : w3.cell? ⟨sz + 1,1,none⟩ = some (.int .i64 0) := by rw [cell_of_row _ _ _ _ _ _ r4]; rfl
     have qf : ∀ j,w3.frozen? ⟨sz + 1,j,none⟩ = false := fun j => frozen_of_row w3 _ j _ _ r4
     clear r4
     go_wp2_with fail
     have E5 := Lib.hid (E3.out.set2 D.out.2.1 M2.out (.int .i64 (v : Int)) (.int .i64 ((0 : Nat) : Int)))
     have r5 := E5.out.row (List.mem_cons_self ..)
     generalize World.setCell (World.setCell _ _ _) _ _ = W5 at r5 E5 ⊢
     have q0 : W5.cell? ⟨sz + 1,0,none⟩ = some (.int .i64 (v : Int)) := by rw [cell_of_row _ _ _ _ _ _ r5]; rfl
     have q1 : W5.cell? ⟨sz + 1,1,none⟩ = some (.int .i64 ((0 : Nat) : Int)) := by rw [cell_of_row _ _ _ _ _ _ r5]; rfl
     rw [AN.out]
     refine bodyPost_ret (v := hrV (some (v,(0 : Nat),a + n1))) (by simp [results,Tryz.results11,go_sem,hrV,q0,q1]) rfl ⟨rfl,?_⟩
     obtain ⟨x', hf,hr,_⟩ := E5.out
     exact ⟨x', hf,hr⟩
    ·have AN : Hid (A = none) := Lib.hid (by rw [AH.out,if_neg hv6])
     have i3 : decide ((65536 : Int) < (v : Int)) = true := decide_eq_true (by omega)
     have i3n : decide (65536 < v) = true := decide_eq_true (by omega)
     have SK := Lib.hid (E3.out.seek D.out.2.1 a ha)
     go_wp2_with fail
     with_reducible refine SK.out.mono ?_
     rintro e w9 ⟨rfl,h4⟩
     have E4 := Lib.hid h4
     clear h4
     have r4 := E4.out.row M2.out
     have q0 : w9.cell? ⟨sz + 1,0,none⟩ = some (.int .i64 0) := by rw [cell_of_row _ _ _ _ _ _ r4]; rfl
     have q1 : w9.cell? ⟨sz + 1,1,none⟩ = some (.int .i64 0) := by rw [cell_of_row _ _ _ _ _ _ r4]; rfl
     have qf : ∀ j,w9.frozen? ⟨sz + 1,j,none⟩ = false := fun j => frozen_of_row w9 _ j _ _ r4
     clear r4
     go_wp2_with fail
     have E5 := Lib.hid (E4.out.set2 D.out.2.1 M2.out (.int .i64 0) (.int .i64 0))
     have r5 := E5.out.row (List.mem_cons_self ..)
     generalize World.setCell (World.setCell _ _ _) _ _ = W5 at r5 E5 ⊢
     have q0 : W5.cell? ⟨sz + 1,0,none⟩ = some (.int .i64 0) := by rw [cell_of_row _ _ _ _ _ _ r5]; rfl
     have q1 : W5.cell? ⟨sz + 1,1,none⟩ = some (.int .i64 0) := by rw [cell_of_row _ _ _ _ _ _ r5]; rfl
     rw [AN.out]
     refine bodyPost_ret (v := hrV none) (by simp [results,Tryz.results11,go_sem,hrV,q0,q1]) rfl ⟨rfl,?_⟩
     obtain ⟨x', hf,hr,_⟩ := E5.out
     exact ⟨x', hf,hr⟩
   ·have hz : v = 0 := by omega
    subst hz
    have AN : Hid (A = some (0,0,a + n1)) := Lib.hid (by rw [AH.out,if_pos (by omega)])
    have r4 := E3.out.row M2.out
    have q0 : w3.cell? ⟨sz + 1,0,none⟩ = some (.int .i64 0) := by rw [cell_of_row _ _ _ _ _ _ r4]; rfl
    have q1 : w3.cell? ⟨sz + 1,1,none⟩ = some (.int .i64 0) := by rw [cell_of_row _ _ _ _ _ _ r4]; rfl
    have qf : ∀ j,w3.frozen? ⟨sz + 1,j,none⟩ = false := fun j => frozen_of_row w3 _ j _ _ r4
    clear r4
    go_wp2_with fail
    have E5 := Lib.hid (E3.out.set2 D.out.2.1 M2.out (.int .i64 ((0 : Nat) : Int)) (.int .i64 ((0 : Nat) : Int)))
    have r5 := E5.out.row (List.mem_cons_self ..)
    generalize World.setCell (World.setCell _ _ _) _ _ = W5 at r5 E5 ⊢
    have q0 : W5.cell? ⟨sz + 1,0,none⟩ = some (.int .i64 ((0 : Nat) : Int)) := by rw [cell_of_row _ _ _ _ _ _ r5]; rfl
    have q1 : W5.cell? ⟨sz + 1,1,none⟩ = some (.int .i64 ((0 : Nat) : Int)) := by rw [cell_of_row _ _ _ _ _ _ r5]; rfl
    rw [AN.out]
    refine bodyPost_ret (v := hrV (some ((0 : Nat),(0 : Nat),a + n1))) (by simp [results,Tryz.results11,go_sem,hrV,q0,q1]) rfl ⟨rfl,?_⟩
    obtain ⟨x', hf,hr,_⟩ := E5.out
    exact ⟨x', hf,hr⟩
theorem RE.mark {x : Nat → Nat} {d t u : Nat} (hdu : d ≠ u) {w W : World} {rb a qb : Nat} {s : ByteArray} {ks : List (Nat × Obj)} {v0 v1 : Value} {T : TypeId} (h : RE x d t u w rb s a ((qb, .cells #[v0, v1] T (0, 0)) :: ks) W) (hne : ∀ p ∈ ks, p.1 ≠ qb) (v : Value) :
  RE x d t u w rb s a ((qb,.cells #[v0,v] T (0,0)) :: ks) (W.setCell ⟨qb,1,none⟩ v) := by
 obtain ⟨x', hf,⟨hr1,hr2,hr3⟩,hk⟩ := h
 obtain ⟨hx,hb⟩ := hk _ (List.mem_cons_self ..)
 have hb' : W.heap[qb]? = some (.cells #[v0,v1] T (0,0)) := hb
 have hx' : x' qb = u := hx
 have ne : ∀ c,c ≠ qb -> (W.setCell ⟨qb,1,none⟩ v).heap[c]? = W.heap[c]? := fun c hc => Below.heap_setCell W ⟨qb,1,none⟩ _ c hc
 have f2 : Fr x' x' (fun c => c = u) W (W.setCell ⟨qb,1,none⟩ v) := Fr.same rfl rfl rfl (by simp) (fun c _ hd => ne c (fun e => hd (by rw [e]; exact hx')))
 refine ⟨x', hf.trans (f2.mono (fun c hc => .inr (.inr hc))),⟨(ne _ (fun e => by rw [e] at hr2; exact hdu (hr2.symm.trans hx'))).trans hr1,hr2,hr3⟩,fun p hp => ?_⟩
 rcases List.mem_cons.1 hp with rfl | hp
 ·refine ⟨hx', ?_⟩
  show (W.setCell ⟨qb,1,none⟩ v).heap[qb]? = _
  rw [heap_setCell_same W qb 1 _ _ _ hb']; rfl
 ·obtain ⟨h1,h2⟩ := hk p (List.mem_cons_of_mem _ hp)
  exact ⟨h1,(ne _ (hne p hp)).trans h2⟩
theorem RE.keep {x : Nat → Nat} {d t u : Nat} {w W : World} {rb a : Nat} {s : ByteArray} {ks : List (Nat × Obj)} (h : RE x d t u w rb s a ks W) (row : Array Value) (T : TypeId) : RE x d t u w rb s a ((W.heap.size, .cells row T (0, 0)) :: ks) (W.alloc (.cells row T)) := by
 obtain ⟨x', hf,⟨h1,h2,h3⟩,hk⟩ := h
 have k : Below W.heap.size W (W.alloc (.cells row T)) := (Below.refl _ _).alloc (Nat.le_refl _) _
 have f2 : Fr x' (paint x' W.heap.size u) (fun e => e = u) W (W.alloc (.cells row T)) := Fr.of_below k rfl
 refine ⟨_,hf.trans (f2.mono (fun c hc => .inr (.inr hc))),⟨(k.block _ (lt_of_block h1)).trans h1,(paint_old (lt_of_block h1)).trans h2,h3⟩,fun p hp => ?_⟩
 rcases List.mem_cons.1 hp with rfl | hp
 ·exact ⟨paint_new (Nat.le_refl _),heap_alloc_new W _⟩
 ·obtain ⟨h4,h5⟩ := hk p hp
  exact ⟨(paint_old (lt_of_block h5)).trans h4,(k.block _ (lt_of_block h5)).trans h5⟩
theorem RE.sub {x : Nat → Nat} {d t u : Nat} {w W : World} {rb a : Nat} {s : ByteArray} {ks ks' : List (Nat × Obj)} (h : RE x d t u w rb s a ks W) (hs : ∀ p ∈ ks', p ∈ ks) : RE x d t u w rb s a ks' W := by
 obtain ⟨x', hf,hr,hk⟩ := h
 exact ⟨x', hf,hr,fun p hp => hk p (hs p hp)⟩
def TK (x : Nat → Nat) (d t u : Nat) (w : World) (rb qb : Nat) (s : ByteArray) (a : Nat) (bad : Bool) (ks : List (Nat × Obj)) (W : World) : Prop :=
 RE x d t u w rb s a ((qb,.cells #[.pointer (some ⟨rb,0,none⟩),.bool bad] 109 (0,0)) :: ks) W /\ ∀ p ∈ ks,p.1 ≠ qb
def TakeP (o : Option (Nat × Nat)) (bad : Bool) (v a' : Nat) (bad' : Bool) : Prop :=
 match o with
 | some q => v = q.1 /\ a' = q.2 /\ bad' = bad
 | none => v = 0 /\ bad' = true
theorem RE.drew {x : Nat → Nat} {d t u : Nat} {w W : World} {rb a : Nat} {s : ByteArray} {ks : List (Nat × Obj)} (h : RE x d t u w rb s a ks W) : RE x d t u w rb s a ks W.drew := h.next (Below.drew (Below.refl _ _))
theorem ts_mk {x : Nat → Nat} {d t u : Nat} {w W : World} {rb a sz qb : Nat} {kd kk : Int} {bad : Bool} {s : ByteArray} {ks : List (Nat × Obj)} (h : RE x d t u w rb s a ((sz, .cells #[.int .u8 kd, .int .u64 kk] 101 (0, 0)) :: (qb, .cells #[.pointer (some ⟨rb, 0, none⟩), .bool bad] 109 (0, 0)) :: ks) W) :
  W.cell? ⟨sz,0,none⟩ = some (.int .u8 kd) /\ W.cell? ⟨sz,1,none⟩ = some (.int .u64 kk) /\ W.cell? ⟨qb,0,none⟩ = some (.pointer (some ⟨rb,0,none⟩)) := by
 have r0 := h.row (List.mem_cons_self ..)
 have r1 := h.row (List.mem_cons_of_mem _ (List.mem_cons_self ..))
 exact ⟨by rw [cell_of_row _ _ _ _ _ _ r0]; rfl,by rw [cell_of_row _ _ _ _ _ _ r0]; rfl,by rw [cell_of_row _ _ _ _ _ _ r1]; rfl⟩
set_option maxRecDepth 100000 in
set_option maxHeartbeats 3200000 in
theorem take_any (x : Nat → Nat) (d t u : Nat) (hdt : d ≠ t) (hdu : d ≠ u) (htu : t ≠ u) (c : Cd) (hc : c.ok) (w : World) (rb qb : Nat) (s : ByteArray) (a most : Nat) (hm : most ≤ 1000000) (bad : Bool) (ks : List (Nat × Obj)) (W : World) (h : TK x d t u w rb qb s a bad ks W) :
  Calls Tryz.prog 107 #[.pointer (some ⟨qb,0,none⟩),cdV c,.int .i64 (most : Int)] W fun e w' =>
   ∃ v a' : Nat,∃ bad' : Bool,e = .returned (.int .i64 (v : Int)) /\ TakeP (tk (unpack (nats s)) c most a) bad v a' bad' /\ TK x d t u w rb qb s a' bad' ks w' := by
 obtain ⟨h1,hne⟩ := h
 have HNE := Lib.hid hne
 have HDU := Lib.hid hdu
 have HB := Lib.hid (fun v n (h : rd c ((unpack (nats s)).drop a) = some (v,n)) => rd_bound c hc h)
 have hmost : c.most <= 281474976710654 := by cases c <;> simp [Cd.most]
 obtain ⟨o,ho⟩ : ∃ o,rd c ((unpack (nats s)).drop a) = o := ⟨_,rfl⟩
 have TE : Hid (tk (unpack (nats s)) c most a = o.bind fun q => if q.1 <= most then some (q.1,a + q.2) else none) := Lib.hid (by unfold tk; rw [ho])
 have RD := Lib.hid (fun W ks (h : RE x d t u w rb s a ks W) => h.read hdt hdu htu c hc)
 rw [ho] at RD HB
 obtain ⟨O,hO⟩ : ∃ O,tk (unpack (nats s)) c most a = O := ⟨_,rfl⟩
 rw [hO] at TE ⊢
 obtain ⟨kd,kk,hcd⟩ := cdV_shape c
 rw [hcd] at RD ⊢
 generalize c.most = cm at hmost HB
 have hq := lt_of_block (h1.row (List.mem_cons_self ..))
 have h2 := h1.keep #[.int .u8 kd,.int .u64 kk] 101
 clear h1 hne hcd ho hO hdt hdu htu
 go_enter Tryz.func107,Tryz.ntmps107
 go_upto_region 1 with fail
 obtain ⟨sz,hsz⟩ : ∃ z,W.heap.size = z := ⟨_,rfl⟩
 rw [hsz] at h2 hq ⊢
 generalize World.alloc W _ = W0 at h2 ⊢
 have r0 := h2.row (List.mem_cons_self ..)
 have r1 := h2.row (List.mem_cons_of_mem _ (List.mem_cons_self ..))
 have c0 : W0.cell? ⟨sz,0,none⟩ = some (.int .u8 kd) := by rw [cell_of_row _ _ _ _ _ _ r0]; rfl
 have c1 : W0.cell? ⟨sz,1,none⟩ = some (.int .u64 kk) := by rw [cell_of_row _ _ _ _ _ _ r0]; rfl
 have c2 : W0.cell? ⟨qb,0,none⟩ = some (.pointer (some ⟨rb,0,none⟩)) := by rw [cell_of_row _ _ _ _ _ _ r1]; rfl
 have H2 := Lib.hid h2
 clear r0 r1 h2 hsz hq
 cases o with
 | none =>
  have AN : Hid (O = none) := Lib.hid (by rw [TE.out]; rfl)
  unfold rdV at RD
  go_region_held3 (fun w' => w'.cell? ⟨sz,0,none⟩ = some (.int .u8 kd) /\ w'.cell? ⟨sz,1,none⟩ = some (.int .u64 kk) /\ w'.cell? ⟨qb,0,none⟩ = some (.pointer (some ⟨rb,0,none⟩)))
   (first | exact ts_mk H2.out | exact ts_mk H2.out.drew | exact ts_mk (by assumption) | exact ts_mk (RE.drew (by assumption)))
   (first | (go_at_call 46; refine (RD.out _ _ (by first | exact H2.out.drew | exact H2.out)).mono ?_; rintro e w1 ⟨rfl,h3⟩))
  have T3 := Lib.hid (h3.sub (ks' := (qb,.cells #[.pointer (some ⟨rb,0,none⟩),.bool bad] 109 (0,0)) :: ks) (fun p hp => List.mem_cons_of_mem _ hp))
  have r1 := T3.out.row (List.mem_cons_self ..)
  have qf : ∀ j,w1.frozen? ⟨qb,j,none⟩ = false := fun j => frozen_of_row w1 _ j _ _ r1
  have q1 : w1.cell? ⟨qb,1,none⟩ = some (.bool bad) := by rw [cell_of_row _ _ _ _ _ _ r1]; rfl
  clear c0 c1 c2 h3 r1 H2 RD
  go_wp2_with fail
  go_ret
  refine ⟨0,_,true,rfl,?_,T3.out.mark HDU.out HNE.out (.bool true),HNE.out⟩
  rw [AN.out]
  exact ⟨rfl,rfl⟩
 | some q =>
  obtain ⟨v,n⟩ := q
  have hv : v <= cm := (HB.out v n rfl).1
  have hv2 : v <= 281474976710654 := Nat.le_trans hv hmost
  unfold rdV at RD
  go_region_held3 (fun w' => w'.cell? ⟨sz,0,none⟩ = some (.int .u8 kd) /\ w'.cell? ⟨sz,1,none⟩ = some (.int .u64 kk) /\ w'.cell? ⟨qb,0,none⟩ = some (.pointer (some ⟨rb,0,none⟩)))
   (first | exact ts_mk H2.out | exact ts_mk H2.out.drew | exact ts_mk (by assumption) | exact ts_mk (RE.drew (by assumption)))
   (first | (go_at_call 46; refine (RD.out _ _ (by first | exact H2.out.drew | exact H2.out)).mono ?_; rintro e w1 ⟨rfl,h3⟩))
  have T3 := Lib.hid (h3.sub (ks' := (qb,.cells #[.pointer (some ⟨rb,0,none⟩),.bool bad] 109 (0,0)) :: ks) (fun p hp => List.mem_cons_of_mem _ hp))
  have r1 := T3.out.row (List.mem_cons_self ..)
  have qf : ∀ j,w1.frozen? ⟨qb,j,none⟩ = false := fun j => frozen_of_row w1 _ j _ _ r1
  have q1 : w1.cell? ⟨qb,1,none⟩ = some (.bool bad) := by rw [cell_of_row _ _ _ _ _ _ r1]; rfl
  clear c0 c1 c2 h3 r1 H2 RD
  by_cases hvm : v <= most
  ·have AN : Hid (O = some (v,a + n)) := Lib.hid (by rw [TE.out,Option.bind_some,if_pos hvm])
   have i1 : decide ((most : Int) < (v : Int)) = false := decide_eq_false (by omega)
   have i1n : decide (most < v) = false := decide_eq_false (by omega)
   clear hv hmost
   go_wp2_with fail
   go_ret
   refine ⟨v,_,bad,rfl,?_,T3.out,HNE.out⟩
   rw [AN.out]
   exact ⟨rfl,rfl,rfl⟩
  ·have AN : Hid (O = none) := Lib.hid (by rw [TE.out,Option.bind_some,if_neg hvm])
   have i1 : decide ((most : Int) < (v : Int)) = true := decide_eq_true (by omega)
   have i1n : decide (most < v) = true := decide_eq_true (by omega)
   clear hv hmost
   go_wp2_with fail
   go_ret
   refine ⟨0,_,true,rfl,?_,T3.out.mark HDU.out HNE.out (.bool true),HNE.out⟩
   rw [AN.out]
   exact ⟨rfl,rfl⟩
theorem runs_in (l : List Nat) : ∀ (l' : List Nat) (n : Nat), (∀ v ∈ l', v ∈ l) → l'.foldl (fun q v => rst q (isIn l v)) ([], n) = ([], n + l'.length)
 | [],n,_ => rfl
 | v :: r,n,h => by
  have e : isIn l v = true := decide_eq_true (h v (List.mem_cons_self ..))
  have e2 : rst ([],n) (isIn l v) = ([],n + 1) := by rw [e]; rfl
  rw [List.foldl_cons,e2,runs_in l r (n + 1) (fun u hu => h u (List.mem_cons_of_mem _ hu)),List.length_cons]
  congr 1
  omega
theorem runs_same (l : List Nat) : runs l l = ([], l.length) := by
 have := runs_in l l 0 (fun _ h => h)
 rw [Nat.zero_add] at this
 exact this
theorem left_same (l : List Nat) : leftOf l l = [] := List.filter_eq_nil_iff.2 (fun v hv => by simp [isIn, hv])
theorem lay_same (x r : Nat) (l : List Nat) (p : Pr) (hs : l ≠ []) (hw : 0 < p.win) (hr : 0 < r) : lay x l l r p = cb .gam l.length ++ (cb .una r ++ cb .gam 0) := by
 unfold lay nums hdN tlN runN restN
 rw [if_neg hs,if_pos hw,if_neg hs,if_pos hr,left_same,if_pos rfl,runs_same]
 show bitsOf [(.gam,l.length),(.una,r),(.gam,0)] = _
 rw [bitsOf_cons,bitsOf_cons,bitsOf_cons,bitsOf_nil,List.append_nil]
theorem ofN_mod (n v : Nat) : ofN n (v % 2 ^ n) = ofN n v := by
 have h := ofN_num (ofN n v)
 rwa [ofN_length,num_ofN] at h
theorem txt_back (l : List Nat) (h : ∀ x ∈ l, x < 256) : nats (txt l) = l := by
 unfold txt nats
 rw [List.map_map]
 conv => rhs; rw [<- List.map_id l]
 apply List.map_congr_left
 intro x hx
 have := h x hx
 simp
 omega
theorem pack_back : ∀ (n : Nat) (b : Bits), b.length ≤ n → ∃ z, unpack (packN b) = b ++ List.replicate z false
 | 0,b,h => by
  obtain rfl := List.eq_nil_of_length_eq_zero (Nat.le_zero.1 h)
  exact ⟨0,by rw [packN_nil]; rfl⟩
 | n + 1,b,h => by
  by_cases hb : b = []
  ·subst hb
   exact ⟨0,by rw [packN_nil]; rfl⟩
  ·rw [packN_cons hb,unpack_cons]
   obtain ⟨z,hz⟩ := pack_back n (b.drop 8) (by
    have : 0 < b.length := List.length_pos_iff.2 hb
    rw [List.length_drop]; omega)
   rw [hz]
   by_cases h8 : 8 <= b.length
   ·refine ⟨z,?_⟩
    have hl : (b.take 8).length = 8 := by rw [List.length_take]; omega
    have e : ofN 8 (bit.byteOf (b.take 8)) = b.take 8 := by
     unfold bit.byteOf
     rw [hl,Nat.sub_self,Nat.pow_zero,Nat.mul_one]
     have := ofN_num (b.take 8)
     rwa [hl] at this
    rw [e,<- List.append_assoc,List.take_append_drop]
   ·have hd : b.drop 8 = [] := List.drop_eq_nil_of_le (by omega)
    have ht : b.take 8 = b := List.take_of_length_le (by omega)
    obtain ⟨m,hm⟩ : ∃ m,8 - b.length = m := ⟨_,rfl⟩
    have e : ofN 8 (bit.byteOf b) = b ++ List.replicate m false := by
     unfold bit.byteOf
     rw [hm,show 8 = b.length + m by omega,ofN_split,Nat.mul_div_cancel _ (Nat.pow_pos (by decide)),ofN_num,<- ofN_mod m,Nat.mul_mod_left,ofN_zero]
    refine ⟨m + z,?_⟩
    rw [hd,ht,e,List.nil_append,List.append_assoc,List.replicate_append_replicate]
theorem text_back (b : Bits) : ∃ R, unpack (nats (txt (packN b))) = b ++ R := by
 obtain ⟨z,hz⟩ := pack_back _ b (Nat.le_refl _)
 exact ⟨_,by rw [txt_back _ (packN_lt b)]; exact hz⟩

def FS (w : World) (wr : Option (Nat × Bits)) (rd : Option (Nat × ByteArray × Nat)) (ks : List (Nat × Obj)) (W : World) : Prop :=
 ∃ x,Fr (fun _ => 100) x (fun c => c < 50) w W /\ (∀ q,wr = some q -> WrC x 0 W q.1 q.2) /\ (∀ q,rd = some q -> RdC x 5 W q.1 q.2.1 q.2.2) /\ ∀ p ∈ ks,x p.1 = 4 /\ W.heap[p.1]? = some p.2
section
variable {w W : World} {wr : Option (Nat × Bits)} {rd : Option (Nat × ByteArray × Nat)} {ks : List (Nat × Obj)}
theorem FS.below (h : FS w wr rd ks W) : Below w.heap.size w W := by
 obtain ⟨x,hf,_⟩ := h
 exact fr_below hf
theorem FS.row (h : FS w wr rd ks W) {b : Nat} {o : Obj} (hm : (b, o) ∈ ks) : W.heap[b]? = some o := by
 obtain ⟨x,_,_,_,hk⟩ := h
 exact (hk _ hm).2
theorem FS.start (w : World) : FS w none none [] w := ⟨_, Fr.refl _ _ _, fun q h => (by cases h), fun q h => (by cases h), fun p hp => (by cases hp)⟩
theorem rdc_frame {x x' : Nat → Nat} {C : Nat → Prop} {d : Nat} {W W' : World} {rb a : Nat} {s : ByteArray} (h : RdC x d W rb s a) (f : Fr x x' C W W') (hC : ¬ C d) : RdC x' d W' rb s a := by
 obtain ⟨h1,h2,h3⟩ := h
 exact ⟨(f.old _ (lt_of_block h1) (by rw [h2]; exact hC)).trans h1,(f.col _ (lt_of_block h1)).trans h2,h3⟩
theorem rows_frame {x x' : Nat → Nat} {C : Nat → Prop} {W W' : World} (h : ∀ p ∈ ks, x p.1 = 4 ∧ W.heap[p.1]? = some p.2) (f : Fr x x' C W W') (hC : ¬ C 4) : ∀ p ∈ ks, x' p.1 = 4 ∧ W'.heap[p.1]? = some p.2 := fun p hp => by
 obtain ⟨h1,h2⟩ := h p hp
 exact ⟨(f.col _ (lt_of_block h2)).trans h1,(f.old _ (lt_of_block h2) (by rw [h1]; exact hC)).trans h2⟩
theorem FS.next (h : FS w wr rd ks W) {W' : World} (k : Below W.heap.size W W') : FS w wr rd ks W' := by
 obtain ⟨x,hf,hw,hr,hk⟩ := h
 have f2 : Fr x (paint x W.heap.size 6) (fun e => e = 6) W W' := Fr.of_below k rfl
 exact ⟨_,hf.trans (f2.mono (fun c hc => by show c < 50; omega)),fun q e => (hw q e).frame f2 (by decide),fun q e => rdc_frame (hr q e) f2 (by decide),rows_frame hk f2 (by decide)⟩
theorem FS.add (h : FS w wr rd ks W) (row : Array Value) (T : TypeId) : FS w wr rd ((W.heap.size, .cells row T (0, 0)) :: ks) (W.alloc (.cells row T)) := by
 obtain ⟨x,hf,hw,hr,hk⟩ := h
 have k : Below W.heap.size W (W.alloc (.cells row T)) := (Below.refl _ _).alloc (Nat.le_refl _) _
 have f2 : Fr x (paint x W.heap.size 4) (fun e => e = 4) W (W.alloc (.cells row T)) := Fr.of_below k rfl
 refine ⟨_,hf.trans (f2.mono (fun c hc => by show c < 50; omega)),fun q e => (hw q e).frame f2 (by decide),fun q e => rdc_frame (hr q e) f2 (by decide),fun p hp => ?_⟩
 rcases List.mem_cons.1 hp with rfl | hp
 ·exact ⟨paint_new (Nat.le_refl _),heap_alloc_new W _⟩
 ·obtain ⟨h1,h2⟩ := hk p hp
  exact ⟨(paint_old (lt_of_block h2)).trans h1,(k.block _ (lt_of_block h2)).trans h2⟩
theorem FS.new (h : FS w none none ks W) :
  Calls Tryz.prog 58 #[] W fun e w' => ∃ wb : Nat,e = .returned (.pointer (some ⟨wb,0,none⟩)) /\ FS w (some (wb,[])) none ks w' := by
 obtain ⟨x,hf,-,-,hk⟩ := h
 refine (new_any x 0 W).mono ?_
 rintro e w' ⟨wb,x', rfl,f2,hw,_⟩
 exact ⟨wb,rfl,x', hf.trans (f2.mono (fun c hc => by show c < 50; omega)),fun q e => by cases e; exact hw,fun q e => (by cases e),rows_frame hk f2 (by decide)⟩
theorem FS.text {wb : Nat} {l : Bits} (h : FS w (some (wb, l)) rd ks W) :
  Calls Tryz.prog 60 #[.pointer (some ⟨wb,0,none⟩)] W fun e w' => e = .returned (.tuple #[.string (txt (packN l)),.int .i64 0]) /\ W = w' := by
 obtain ⟨x,_,hw,_⟩ := h
 exact text_any x 0 W wb l (hw _ rfl)
theorem FS.len {wb : Nat} {l : Bits} (h : FS w (some (wb, l)) rd ks W) :
  Calls Tryz.prog 61 #[.pointer (some ⟨wb,0,none⟩)] W fun e w' => e = .returned (.int .i64 (l.length : Int)) /\ W = w' := by
 obtain ⟨x,_,hw,_⟩ := h
 exact len_any x 0 W wb l (hw _ rfl)
theorem FS.open (h : FS w wr none ks W) (s : ByteArray) (hs : s.size ≤ 1152921504606846975) :
  Calls Tryz.prog 7 #[.string s] W fun e w' => ∃ rb : Nat,e = .returned (.pointer (some ⟨rb,0,none⟩)) /\ FS w wr (some (rb,s,0)) ks w' := by
 obtain ⟨x,hf,hw,-,hk⟩ := h
 refine (ropen_any x 5 s hs W).mono ?_
 rintro e w' ⟨rb,x', rfl,f2,hr,_⟩
 exact ⟨rb,rfl,x', hf.trans (f2.mono (fun c hc => by show c < 50; omega)),fun q e => (hw q e).frame f2 (by decide),fun q e => by cases e; exact hr,rows_frame hk f2 (by decide)⟩
theorem FS.at_ {rb a : Nat} {s : ByteArray} (h : FS w wr (some (rb, s, a)) ks W) :
  Calls Tryz.prog 14 #[.pointer (some ⟨rb,0,none⟩)] W fun e w' => e = .returned (.int .i64 (a : Int)) /\ W = w' := by
 obtain ⟨x,_,_,hr,_⟩ := h
 exact At_any x 5 W rb s a (hr _ rfl)
theorem FS.head {rb a : Nat} {s : ByteArray} (h : FS w wr (some (rb, s, a)) ks W) (hG : GL w) (p : Pr) (hp : p.ok) :
  Calls Tryz.prog 11 #[.pointer (some ⟨rb,0,none⟩),parV (p.win : Int) (p.itv : Int) (p.zet : Int)] W fun e w' =>
   e = .returned (hrV (hread p.win (unpack (nats s)) a)) /\ FS w wr (some (rb,s,hrA a (hread p.win (unpack (nats s)) a))) ks w' := by
 have kb := h.below
 obtain ⟨x,hf,hw,hr,hk⟩ := h
 have e0 : x 0 = 100 := hf.col 0 (World.block_lt_of_cell? _ _ hG.g0)
 have e1 : x 1 = 100 := hf.col 1 (World.block_lt_of_cell? _ _ hG.u0)
 refine (head_any x 5 1 2 (by decide) (by decide) (by decide) p hp W (hG.below kb) (by rw [e0,e1]; decide) rb s a (hr _ rfl)).mono ?_
 rintro e w' ⟨rfl,x', f2,hr2⟩
 exact ⟨rfl,x', hf.trans (f2.mono (fun c hc => by show c < 50; omega)),fun q e => (hw q e).frame f2 (by decide),fun q e => by cases e; exact hr2,rows_frame hk f2 (by decide)⟩
end
theorem lv_own {w : World} {base : Nat} {v : Value} {l : List Nat} (hl : l.length ≤ 4611686018427387903) (hb : ∀ u ∈ l, u < 4294967296) (h : w.ownsRow base 77 1 v l.length (u32V l)) : ∃ a cap, v = .slice a l.length cap ∧ l.length ≤ cap ∧ LV w a l := by
 rcases h.2 with ⟨hv,h0⟩ | ⟨g,cap,cur,hv,hbb,hg,hn,hc,hcs,_⟩
 ·exact ⟨none,0,by rw [hv,h0],by omega,hl,fun k hk => by omega⟩
 ·subst hv
  refine ⟨_,_,rfl,hn,hl,fun k hk => ⟨g,0,rfl,lt_of_block hg,?_,hb _ (List.getElem_mem hk)⟩⟩
  rw [Nat.zero_add,h.cellAt k (by omega)]
  simp [u32V,hk]
theorem LV.fr {x x' : Nat → Nat} {C : Nat → Prop} {w w' : World} {a : Option Addr} {l : List Nat} (h : LV w a l) (f : Fr x x' C w w') (hc : ∀ g o, a = some ⟨g, o, none⟩ → ¬ C (x g)) : LV w' a l :=
 ⟨h.1,fun i hi => by
  obtain ⟨g,o,h1,h2,h3,h4⟩ := h.2 i hi
  exact ⟨g,o,h1,Nat.lt_of_lt_of_le h2 f.size,(World.cell?_of_block (f.old g h2 (hc g o h1))).trans h3,h4⟩⟩
theorem RE.grown {x : Nat → Nat} {d t u : Nat} (hdu : d ≠ u) {w W W2 : World} {rb a : Nat} {s : ByteArray} {ks ks' : List (Nat × Obj)} {row : Option Nat} (h : RE x d t u w rb s a ks W) (hg : W.grownBy W2 row) (hrow : ∀ g, row = some g → ∃ o, (g, o) ∈ ks)
  (hk' : ∀ p ∈ ks', (p ∈ ks /\ some p.1 ≠ row) \/ ((some p.1 = row \/ W.heap.size <= p.1) /\ W2.heap[p.1]? = some p.2)) : RE x d t u w rb s a ks' W2 := by
 obtain ⟨x', hf,⟨hr1,hr2,hr3⟩,hk⟩ := h
 have hcol : ∀ g,row = some g -> x' g = u /\ g < W.heap.size := fun g e => by
  obtain ⟨o,ho⟩ := hrow g e
  have := hk _ ho
  exact ⟨this.1,lt_of_block this.2⟩
 have f2 : Fr x' (paint x' W.heap.size u) (fun e => e = u) W W2 := Fr.of_steps hg.os hg.tape hg.output hg.size rfl (fun b hb hu => hg.block b hb (fun e => hu (hcol b e.symm).1))
 have keep : ∀ b,b < W.heap.size -> some b ≠ row -> W2.heap[b]? = W.heap[b]? := fun b hb hne => hg.block b hb hne
 refine ⟨_,hf.trans (f2.mono (fun c hc => .inr (.inr hc))),⟨(keep _ (lt_of_block hr1) (fun e => hdu (hr2.symm.trans (hcol _ e.symm).1))).trans hr1,(paint_old (lt_of_block hr1)).trans hr2,hr3⟩,fun p hp => ?_⟩
 rcases hk' p hp with ⟨h1,h2⟩ | ⟨h1,h2⟩
 ·obtain ⟨h3,h4⟩ := hk p h1
  exact ⟨(paint_old (lt_of_block h4)).trans h3,(keep _ (lt_of_block h4) h2).trans h4⟩
 ·refine ⟨?_,h2⟩
  rcases h1 with h1 | h1
  ·have := hcol _ h1.symm
   exact (paint_old this.2).trans this.1
  ·exact paint_new h1
theorem own_same {W W' : World} {base : Nat} {T : TypeId} {v : Value} {n : Nat} {xs : List Value} (h : W.ownsRow base T 1 v n xs) (hs : ∀ g, v.ownBlock = some g → W'.heap[g]? = W.heap[g]?) : W'.ownsRow base T 1 v n xs := by
 refine ⟨h.1,?_⟩
 rcases h.2 with h2 | ⟨g,cap,cur,hv,hb,hg,r⟩
 ·exact .inl h2
 ·exact .inr ⟨g,cap,cur,hv,hb,(hs g (by rw [hv]; rfl)).trans hg,r⟩
theorem own_block {W : World} {base : Nat} {T : TypeId} {v : Value} {n : Nat} {xs : List Value} (h : W.ownsRow base T 1 v n xs) {g : Nat} (hv : v.ownBlock = some g) : ∃ o, W.heap[g]? = some o := by
 rcases h.2 with ⟨rfl,_⟩ | ⟨g', cap,cur,rfl,_,hg,_⟩
 ·cases hv
 ·cases hv
  exact ⟨_,hg⟩
def TR (x : Nat → Nat) (d t u : Nat) (w : World) (rb qb : Nat) (s : ByteArray) (a : Nat) (bad : Bool) (ks : List (Nat × Obj)) (l : List Nat) (v : Value) (W : World) : Prop :=
 W.ownsRow 0 77 1 v l.length (u32V l) /\ ∃ ks', (∀ g,v.ownBlock = some g -> ∃ o,(g,o) ∈ ks') /\ (∀ p ∈ ks', some p.1 = v.ownBlock) /\ (∀ p ∈ ks,some p.1 ≠ v.ownBlock) /\ TK x d t u w rb qb s a bad (ks' ++ ks) W
section
variable {x : Nat → Nat} {d t u : Nat} {w W : World} {rb qb a : Nat} {s : ByteArray} {bad : Bool} {ks : List (Nat × Obj)} {l : List Nat} {v : Value}
theorem TK.next (h : TK x d t u w rb qb s a bad ks W) {W' : World} (k : Below W.heap.size W W') : TK x d t u w rb qb s a bad ks W' := ⟨h.1.next k, h.2⟩
theorem TR.nil (h : TK x d t u w rb qb s a bad ks W) : TR x d t u w rb qb s a bad ks [] (.slice none 0 0) W :=
 ⟨World.ownsRow_nil _ _ _ _,[],fun _ hg => (by cases hg),fun _ hp => (by cases hp),fun _ _ e => (by cases e),h⟩
theorem TR.next (h : TR x d t u w rb qb s a bad ks l v W) {W' : World} (k : Below W.heap.size W W') : TR x d t u w rb qb s a bad ks l v W' := by
 obtain ⟨h1,ks', h2,h3,h4,h5⟩ := h
 exact ⟨own_below h1 k,ks', h2,h3,h4,h5.next k⟩
theorem TR.base (h : TR x d t u w rb qb s a bad ks l v W) : TK x d t u w rb qb s a bad ks W := by
 obtain ⟨h1,ks', h2,h3,h4,h5,h6⟩ := h
 refine ⟨h5.sub (fun p hp => ?_),fun p hp => h6 p (List.mem_append_right _ hp)⟩
 rcases List.mem_cons.1 hp with rfl | hp
 ·exact List.mem_cons_self ..
 ·exact List.mem_cons_of_mem _ (List.mem_append_right _ hp)
theorem TR.re (h : TR x d t u w rb qb s a bad ks l v W) : RE x d t u w rb s a ks W := h.base.1.sub (fun _ hp => List.mem_cons_of_mem _ hp)
theorem TR.cells (h : TR x d t u w rb qb s a bad ks l v W) : W.cell? ⟨qb, 0, none⟩ = some (.pointer (some ⟨rb, 0, none⟩)) ∧ W.cell? ⟨qb, 1, none⟩ = some (.bool bad) ∧ ∀ j, W.frozen? ⟨qb, j, none⟩ = false := by
 have r := h.base.1.row (List.mem_cons_self ..)
 exact ⟨by rw [cell_of_row _ _ _ _ _ _ r]; rfl,by rw [cell_of_row _ _ _ _ _ _ r]; rfl,fun j => frozen_of_row W _ j _ _ r⟩
theorem TR.mark (hdu : d ≠ u) (h : TR x d t u w rb qb s a bad ks l v W) (b : Bool) : TR x d t u w rb qb s a b ks l v (W.setCell ⟨qb, 1, none⟩ (.bool b)) := by
 obtain ⟨h1,ks', h2,h3,h4,h5,h6⟩ := h
 have hne : ∀ g,v.ownBlock = some g -> g ≠ qb := fun g hg => by
  obtain ⟨o,ho⟩ := h2 g hg
  exact h6 _ (List.mem_append_left _ ho)
 exact ⟨own_same h1 (fun g hg => Below.heap_setCell W ⟨qb,1,none⟩ _ g (hne g hg)),ks', h2,h3,h4,h5.mark hdu h6 _,h6⟩
theorem TR.take (hdt : d ≠ t) (hdu : d ≠ u) (htu : t ≠ u) (c : Cd) (hc : c.ok) (most : Nat) (hm : most ≤ 1000000) (h : TR x d t u w rb qb s a bad ks l v W) :
  Calls Tryz.prog 107 #[.pointer (some ⟨qb,0,none⟩),cdV c,.int .i64 (most : Int)] W fun e w' =>
   ∃ z a' : Nat,∃ bad' : Bool,e = .returned (.int .i64 (z : Int)) /\ TakeP (tk (unpack (nats s)) c most a) bad z a' bad' /\ TR x d t u w rb qb s a' bad' ks l v w' := by
 obtain ⟨h1,ks', h2,h3,h4,h5⟩ := h
 refine (take_any x d t u hdt hdu htu c hc w rb qb s a most hm bad _ W h5).mono ?_
 rintro e w' ⟨z,a', bad', rfl,hp,h6⟩
 refine ⟨z,a', bad', rfl,hp,own_same h1 (fun g hg => ?_),ks', h2,h3,h4,h6⟩
 obtain ⟨o,ho⟩ := h2 g hg
 have e1 := h5.1.row (b := g) (o := o) (List.mem_cons_of_mem _ (List.mem_append_left _ ho))
 have e2 := h6.1.row (b := g) (o := o) (List.mem_cons_of_mem _ (List.mem_append_left _ ho))
 rw [e1,e2]
theorem TR.set (hdu : d ≠ u) (h : TR x d t u w rb qb s a bad ks l v W) {W2 : World} {v' : Value} (l2 : List Nat) (own : W2.ownsRow 0 77 1 v' l2.length (u32V l2)) (hg : W.grownBy W2 v.ownBlock)
  (hw : v'.ownBlock = v.ownBlock \/ v'.ownBlock = some W.heap.size) : TR x d t u w rb qb s a bad ks l2 v' W2 := by
 obtain ⟨h1,ks', h2,h3,h4,h5,h6⟩ := h
 have hlt : ∀ p ∈ ks,p.1 < W.heap.size := fun p hp => lt_of_block (h5.row (b := p.1) (o := p.2) (List.mem_cons_of_mem _ (List.mem_append_right _ hp)))
 have hq := lt_of_block (h5.row (List.mem_cons_self ..))
 have hqv : some qb ≠ v.ownBlock := fun e => by
  obtain ⟨o,ho⟩ := h2 qb e.symm
  exact h6 _ (List.mem_append_left _ ho) rfl
 have hnew : ∀ b,b < W.heap.size -> some b ≠ v.ownBlock -> some b ≠ v'.ownBlock := fun b hb hne e => by
  rcases hw with h | h
  ·exact hne (e.trans h)
  ·rw [h] at e
   injection e with e
   omega
 obtain ⟨ks2,hk1,hk2,hk3⟩ : ∃ ks2 : List (Nat × Obj),(∀ g,v'.ownBlock = some g -> ∃ o,(g,o) ∈ ks2) /\ (∀ p ∈ ks2,some p.1 = v'.ownBlock) /\ ∀ p ∈ ks2,W2.heap[p.1]? = some p.2 := by
  rcases hv : v'.ownBlock with _ | g
  ·exact ⟨[],fun _ hg => (by cases hg),fun _ hp => (by cases hp),fun _ hp => (by cases hp)⟩
  ·obtain ⟨o,ho⟩ := own_block own hv
   refine ⟨[(g,o)],fun g' hg' => ⟨o,by cases hg'; exact List.mem_cons_self ..⟩,fun p hp => ?_,fun p hp => ?_⟩
   ·rw [List.mem_singleton.1 hp]
   ·rw [List.mem_singleton.1 hp]; exact ho
 refine ⟨own,ks2,hk1,hk2,fun p hp => hnew _ (hlt p hp) (h4 p hp),h5.grown hdu hg (fun g e => ?_) (fun p hp => ?_),fun p hp => ?_⟩
 ·obtain ⟨o,ho⟩ := h2 g e
  exact ⟨o,List.mem_cons_of_mem _ (List.mem_append_left _ ho)⟩
 ·rcases List.mem_cons.1 hp with rfl | hp
  ·exact .inl ⟨List.mem_cons_self ..,hqv⟩
  ·rcases List.mem_append.1 hp with hp | hp
   ·refine .inr ⟨?_,hk3 p hp⟩
    rcases hw with h | h
    ·exact .inl ((hk2 p hp).trans h)
    ·refine .inr ?_
     have := (hk2 p hp).trans h
     injection this with this
     omega
   ·exact .inl ⟨List.mem_cons_of_mem _ (List.mem_append_right _ hp),h4 p hp⟩
 ·rcases List.mem_append.1 hp with hp | hp
  ·intro e
   exact hnew qb hq hqv (e ▸ hk2 p hp)
  ·exact h6 p (List.mem_append_right _ hp)
theorem TR.add (hdu : d ≠ u) (h : TR x d t u w rb qb s a bad ks l v W) {W2 : World} {v' : Value} (l2 : List Nat) (m : Nat) (hm : l2.length = m) (own : W2.ownsRow 0 77 1 v' (l.length + m) (u32V l ++ u32V l2)) (hg : W.grownBy W2 v.ownBlock)
  (hw : v'.ownBlock = v.ownBlock \/ v'.ownBlock = some W.heap.size) : TR x d t u w rb qb s a bad ks (l ++ l2) v' W2 :=
 h.set hdu (l ++ l2) (by rw [List.length_append,hm,u32V_append]; exact own) hg hw
end
theorem wpList_append_lv {P : Program} (w : World) {ops : Array Oper} {rest : List Oper} {o : Oper} {a : Act} {Q : Exit → Act → World → Prop} (hgd : o.guard = none) (s x : Operand) (t : TypeId)
  (ho : o.op = .call { callee := .builtin .append,args := #[s,x],argTypes := #[t,t] })
  (base : Nat) (e : TypeId) (i : TypeInfo) (z : Value) (bytes : Nat) (ht : P.underlying t = some (.slice e)) (hi : P.info? e = some i) (hz : i.zero = some z)
  (hsize : i.size = 1) (hby : i.bytes = bytes) (hzs : z.cells.size = 1)
  (v : Value) (n : Nat) (xs : List Value) (hs : a.eval s = v) (hown : w.ownsRow base e 1 v n xs) (ao : Option Addr) (m c : Nat) (l : List Nat) (hx : a.eval x = .slice ao m c) (hm : l.length = m) (hLV : LV w ao l)
  (h63 : n + m <= maxLen) (hbytes : (n + m) * bytes <= 140737488355328) (hbase : base <= w.heap.size)
  (h : ∀ v' w', w'.ownsRow base e 1 v' (n + m) (xs ++ u32V l) -> w.grownBy w' v.ownBlock -> (v'.ownBlock = v.ownBlock \/ v'.ownBlock = some w.heap.size) -> wpList P ops Q rest (a.put o.dst v') w') :
  wpList P ops Q (o :: rest) a w := by
 by_cases h0 : 0 < m
 ·obtain ⟨g,of,rfl⟩ := hLV.addr (by omega)
  have hc := hLV.cells m
  rw [List.take_of_length_le (by omega)] at hc
  exact wpList_append_at w hgd s x t ho base e i z 1 bytes ht hi hz hsize hby hzs (by decide) v n xs hs hown ⟨g,of,none⟩ m c (u32V l) hx (by rw [u32V,List.length_map,hm,Nat.mul_one]) hc (u32_one l) h63 hbytes hbase h0 h
 ·obtain rfl : m = 0 := by omega
  obtain rfl : l = [] := List.eq_nil_of_length_eq_zero hm
  obtain ⟨av,cv,hv,hle⟩ := own_slice hown
  have hsrc : Src P i.size t (.slice ao 0 c) 0 [] w := by
   cases ao with
   | none => exact Src.ofNil w ht c
   | some ad => exact Src.ofSlice w ht _ 0 c [] (by simp) (fun j u hu => by simp at hu) (fun u hu => by cases hu)
  refine wpList_plain hgd fun K hK => ?_
  have hr := run_append_nothing (P := P) w t t o.type e i ht hi av n cv hle (.slice ao 0 c) hsrc
  unfold Oper.wp execOp
  subst hv
  simp only [ho,resolve,invoke,builtin,Sem.run_bind,Sem.run_pure,Result.andThen_ok,List.map_toArray,List.map_cons,List.map_nil,hs,hx,hr]
  refine hK _ _ (h _ _ ?_ ⟨rfl,rfl,rfl,Nat.le_refl _,fun _ _ _ => rfl⟩ (.inl rfl))
  show w.ownsRow base e 1 _ (n + 0) (xs ++ [])
  rw [List.append_nil]
  exact hown
def Apt (x : Nat → Nat) (d t u : Nat) (a : Option Addr) (l : List Nat) : Prop := ∀ g o, a = some ⟨g, o, none⟩ → 0 < l.length → ¬ (x g = d ∨ x g = t ∨ x g = u)
theorem Apt.drop {x : Nat → Nat} {d t u g o : Nat} {l : List Nat} (h : Apt x d t u (some ⟨g, o, none⟩) l) (k : Nat) (n : Nat) : Apt x d t u (some ⟨g, k, none⟩) (l.drop n) := fun g' o' e hl => by
 injection e with e
 injection e with e1 e2
 subst e1
 exact h g o rfl (by rw [List.length_drop] at hl; omega)
theorem Apt.nil {x : Nat → Nat} {d t u : Nat} {a : Option Addr} : Apt x d t u a [] := fun g o e hl => by simp at hl
theorem LV.nil {w : World} {a : Option Addr} : LV w a [] := ⟨Nat.zero_le _, fun i h => by cases h⟩
theorem LV.take {w : World} {a : Option Addr} {l : List Nat} (h : LV w a l) (k : Nat) : LV w a (l.take k) := by
 refine ⟨by rw [List.length_take]; have := h.1; omega,fun i hi => ?_⟩
 rw [List.length_take] at hi
 obtain ⟨g,o,h1,h2,h3,h4⟩ := h.2 i (by omega)
 exact ⟨g,o,h1,h2,by rw [List.getElem_take]; exact h3,by rw [List.getElem_take]; exact h4⟩
def GlC (x : Nat → Nat) (d t u : Nat) : Prop := x 0 ≠ d ∧ x 0 ≠ t ∧ x 0 ≠ u ∧ x 1 ≠ d ∧ x 1 ≠ t ∧ x 1 ≠ u
theorem RE.gl {x : Nat → Nat} {d t u : Nat} {w W : World} {rb a : Nat} {s : ByteArray} {ks : List (Nat × Obj)} (h : RE x d t u w rb s a ks W) (hG : GL w) (hgl : GlC x d t u) : GL W := by
 obtain ⟨x', hf,_⟩ := h
 have k0 := hf.old 0 (World.block_lt_of_cell? _ _ hG.g0) (by rintro (e | e | e); exact hgl.1 e; exact hgl.2.1 e; exact hgl.2.2.1 e)
 have k1 := hf.old 1 (World.block_lt_of_cell? _ _ hG.u0) (by rintro (e | e | e); exact hgl.2.2.2.1 e; exact hgl.2.2.2.2.1 e; exact hgl.2.2.2.2.2 e)
 exact ⟨(World.cell?_of_block (w := w) k0).trans hG.g0,(World.cell?_of_block (w := w) k0).trans hG.g1,(World.cell?_of_block (w := w) k1).trans hG.u0,(World.cell?_of_block (w := w) k1).trans hG.u1⟩
theorem RE.lv {x : Nat → Nat} {d t u : Nat} {w W : World} {rb a : Nat} {s : ByteArray} {ks : List (Nat × Obj)} (h : RE x d t u w rb s a ks W) {ar : Option Addr} {l : List Nat} (hA : LV w ar l) (hc : Apt x d t u ar l) : LV W ar l := by
 obtain ⟨x', hf,_⟩ := h
 rcases Nat.eq_zero_or_pos l.length with h0 | h0
 ·obtain rfl := List.eq_nil_of_length_eq_zero h0
  exact LV.nil
 ·exact hA.fr hf (fun g o e => hc g o e h0)
theorem LV.cut {w : World} {ad : Addr} {l : List Nat} (h : LV w (some ad) l) {cap k : Nat} (hc : l.length ≤ cap) (hk : k ≤ l.length) : LV w (if cap = k then some ad else some (ad.add k)) (l.drop k) := by
 rcases Nat.eq_or_lt_of_le hk with e | e
 ·rw [List.drop_eq_nil_of_le (by omega)]
  exact LV.nil
 ·obtain ⟨g,o,e2⟩ := h.addr (by omega)
  injection e2 with e2
  subst e2
  rw [if_neg (by omega),Addr.add_lit]
  exact h.drop k
theorem Apt.cut {x : Nat → Nat} {d t u : Nat} {w : World} {ad : Addr} {l : List Nat} (h : Apt x d t u (some ad) l) (hl : LV w (some ad) l) {cap k : Nat} (hc : l.length ≤ cap) (hk : k ≤ l.length) : Apt x d t u (if cap = k then some ad else some (ad.add k)) (l.drop k) := by
 rcases Nat.eq_or_lt_of_le hk with e | e
 ·rw [List.drop_eq_nil_of_le (by omega)]
  exact Apt.nil
 ·obtain ⟨g,o,e2⟩ := hl.addr (by omega)
  injection e2 with e2
  subst e2
  rw [if_neg (by omega),Addr.add_lit]
  exact h.drop _ k
def CopP (o : Option (List Nat × Nat)) (m : Nat) (l : List Nat) (a' : Nat) (bad : Bool) : Prop :=
 l.length <= m /\ (∀ v ∈ l,v < 65536) /\ (bad = true -> o = none) /\ (bad = false -> o = some (l,a'))
def ListE (P : List Nat → Nat → Bool → Prop) (x : Nat → Nat) (d t u : Nat) (w : World) (rb qb : Nat) (s : ByteArray) (ks : List (Nat × Obj)) (e : Ending) (w' : World) : Prop :=
 ∃ (v : Value) (l : List Nat) (a' : Nat) (bad : Bool),e = .returned v /\ P l a' bad /\ TR x d t u w rb qb s a' bad ks l v w'
set_option maxRecDepth 100000 in
set_option maxHeartbeats 6400000 in
theorem copies_any (x : Nat → Nat) (d t u : Nat) (hdt : d ≠ t) (hdu : d ≠ u) (htu : t ≠ u) (w : World) (hG : GL w) (hgl : GlC x d t u) (rb qb : Nat) (s : ByteArray) (a : Nat) (ks : List (Nat × Obj)) (W : World) (h : TK x d t u w rb qb s a false ks W)
  (ar : Option Addr) (ref : List Nat) (cap : Nat) (hcap : ref.length <= cap) (hlen : ref.length <= 65536) (hb : ∀ v ∈ ref,v < 65536) (hA : LV w ar ref) (hc : Apt x d t u ar ref) :
  Calls Tryz.prog 79 #[.pointer (some ⟨qb,0,none⟩),.slice ar ref.length cap] W (ListE (CopP (copies (unpack (nats s)) ref a) ref.length) x d t u w rb qb s ks) := by
 obtain ⟨j0,hj,hj0,hj1,hj2⟩ := info_parts Tryz.infoU32
 have H0 := Lib.hid (TR.nil h)
 have GG := Lib.hid (fun W l v a bad (h : TR x d t u w rb qb s a bad ks l v W) => h.re.gl hG hgl)
 have LL := Lib.hid (fun W l v a bad (h : TR x d t u w rb qb s a bad ks l v W) ar ref (h1 : LV w ar ref) (h2 : Apt x d t u ar ref) => h.re.lv h1 h2)
 have HA := Lib.hid (And.intro hA (And.intro hc hb))
 have HDU := Lib.hid hdu
 have TT : Hid (∀ W l v a bad (_ : TR x d t u w rb qb s a bad ks l v W) (mi : Int) (most : Nat) (_ : mi = (most : Int)) (_ : most <= 1000000),Calls Tryz.prog 107 #[.pointer (some ⟨qb,0,none⟩),cdV .gam,.int .i64 mi] W fun e w' =>
   ∃ z a' : Nat,∃ bad' : Bool,e = .returned (.int .i64 (z : Int)) /\ TakeP (tk (unpack (nats s)) .gam most a) bad z a' bad' /\ TR x d t u w rb qb s a' bad' ks l v w') := Lib.hid (fun W l v a bad h mi most e hm => by
  subst e
  exact h.take hdt hdu htu .gam trivial most hm)
 obtain ⟨B,hB⟩ : ∃ B,unpack (nats s) = B := ⟨_,rfl⟩
 rw [hB] at TT ⊢
 obtain ⟨F,hF⟩ : ∃ F,copies B ref a = F := ⟨_,rfl⟩
 have HF : Hid (F = (tk B .gam (ref.length + 1) a).bind fun q => (cpy B q.1 0 ref q.2).map fun t => (if q.1 % 2 = 0 then t.1 ++ t.2.1 else t.1,t.2.2)) := Lib.hid (by rw [<- hF]; rfl)
 rw [hF]
 unfold cdV at TT
 obtain ⟨n0,hn0⟩ : ∃ n,ref.length = n := ⟨_,rfl⟩
 have HN := Lib.hid hn0
 rw [hn0] at hcap hlen HF ⊢
 clear hG hgl hA hc hdt hdu htu h hB hF hb hn0
 go_enter Tryz.func79,Tryz.ntmps79
 have g := GG.out _ _ _ _ _ H0.out
 have gg0 := g.g0
 have gg1 := g.g1
 have T1 := Lib.hid (TT.out _ _ _ _ _ H0.out ((n0 : Int) + 1) (n0 + 1) (by omega) (by omega))
 clear g
 go_wp2_with fail
 with_reducible refine T1.out.mono ?_
 rintro e w1 ⟨z,a1,bad1,rfl,hp,h1⟩
 have O1 : Hid (∃ o,tk B .gam (n0 + 1) a = o /\ TakeP o false z a1 bad1) := Lib.hid ⟨_,rfl,hp⟩
 obtain ⟨o,ho,hp2⟩ := O1.out
 have ST : Hid (∃ bad : Bool,bad = bad1 /\ z <= n0 + 1 /\ (bad = true -> z = 0 /\ F = none) /\ (bad = false -> F = (cpy B z 0 ref a1).map fun t => (if z % 2 = 0 then [] ++ t.1 ++ t.2.1 else [] ++ t.1,t.2.2))) := Lib.hid (by
  rw [ho] at HF
  cases o with
  | none =>
   obtain ⟨rfl,rfl⟩ := hp2
   exact ⟨true,rfl,Nat.zero_le _,fun _ => ⟨rfl,HF.out⟩,fun h => (by cases h)⟩
  | some q =>
   obtain ⟨rfl,rfl,rfl⟩ := hp2
   refine ⟨false,rfl,?_,fun h => (by cases h),fun _ => by rw [HF.out]; rfl⟩
   unfold tk at ho
   cases hr : rd .gam (B.drop a) with
   | none => rw [hr] at ho; cases ho
   | some q2 =>
    rw [hr] at ho
    simp only [Option.bind_some] at ho
    split at ho
    ·injection ho with ho
     subst ho
     assumption
    ·cases ho)
 obtain ⟨bd,rfl,hz,hb1,hb2⟩ := ST.out
 have H1 := Lib.hid h1
 have B1 := Lib.hid hb1
 have B2 := Lib.hid hb2
 clear O1 ST ho hp2 hp h1 hb1 hb2 T1 HF gg0 gg1 H0
 go_wp2_with fail
 go_loopw [1,5,16] (fun v1 v5 v16 wr => ∃ (i : Nat) (ar' : Option Addr) (ref' : List Nat) (cap' : Nat) (l : List Nat) (a' : Nat),v1 = .slice ar' ref'.length cap' /\ v16 = .int .i64 (i : Int) /\ i <= z /\ ref'.length <= cap' /\ cap' <= cap /\ LV w ar' ref' /\ Apt x d t u ar' ref' /\ (∀ v ∈ ref', v < 65536) /\ l.length + ref'.length <= n0 /\ (∀ v ∈ l,v < 65536) /\
   (bd = false -> F = (cpy B (z - i) i ref' a').map fun t => (if z % 2 = 0 then l ++ t.1 ++ t.2.1 else l ++ t.1,t.2.2)) /\ TR x d t u w rb qb s a' bd ks l v5 wr) (fun _ _ v16 _ => z - (intOf v16).toNat)
 case atStart => exact ⟨0,ar,ref,cap,[],a1,by rw [HN.out],rfl,Nat.zero_le _,by rw [HN.out]; exact hcap,Nat.le_refl _,HA.out.1,HA.out.2.1,HA.out.2.2,by rw [HN.out]; simp,fun v hv => (by cases hv),B2.out,H1.out⟩
 case round =>
  rename_i wr
  obtain ⟨i,ar', ref', cap', l,a', rfl,rfl,hi,hc1,hc2,hLV,hApt,hb', hlr,hl', hE,hT⟩ := hrel
  have HL := Lib.hid (And.intro hLV (And.intro hApt (And.intro hb' hl')))
  have HE := Lib.hid hE
  have HT := Lib.hid hT
  have HLVr := Lib.hid (LL.out _ _ _ _ _ hT _ _ hLV hApt)
  obtain ⟨sv,sc,rfl⟩ := own_shape hT.1
  obtain ⟨n,hn⟩ : ∃ n,ref'.length = n := ⟨_,rfl⟩
  have HN' := Lib.hid hn
  rw [hn] at hc1 hlr ⊢
  clear hLV hApt hb' hl' hE hn
  by_cases hlt : i < z
  ·have hbd : bd = false := by
    cases bd with
    | false => rfl
    | true => have := (B1.out rfl).1; omega
   subst hbd
   have i1 : decide ((i : Int) < (z : Int)) = true := decide_eq_true (by omega)
   have g := GG.out _ _ _ _ _ HT.out
   have gg0 := g.g0
   have gg1 := g.g1
   have T2 := Lib.hid (TT.out _ _ _ _ _ HT.out (n : Int) n rfl (by omega))
   clear g hT
   go_wp2_with fail
   with_reducible refine T2.out.mono ?_
   rintro e w2 ⟨z2,a2,bad2,rfl,hp,h2⟩
   have H2 := Lib.hid h2
   have P2 := Lib.hid hp
   obtain ⟨q0,q1,qf⟩ := h2.cells
   clear gg0 gg1 T2 h2 hp
   obtain ⟨o2,ho2⟩ : ∃ o,tk B .gam n a' = o := ⟨_,rfl⟩
   have HO2 := Lib.hid ho2
   rw [ho2] at P2
   obtain ⟨m,hm⟩ : ∃ m : Nat,min (i : Int) 1 = (m : Int) := ⟨min i 1,by omega⟩
   have HM : Hid (m = min i 1) := Lib.hid (by omega)
   have FN : Hid (∀ W' a'' bad', TR x d t u w rb qb s a'' bad' ks l (.slice sv l.length sc) W' -> F = none -> ListE (CopP F n0) x d t u w rb qb s ks (Ending.returned (.slice none 0 0)) (W'.setCell ⟨qb,1,none⟩ (.bool true))) := Lib.hid (fun W' a'' bad' h hf =>
    ⟨_,[],a'', true,rfl,⟨Nat.zero_le _,fun v hv => (by cases hv),fun _ => hf,fun h => (by cases h)⟩,TR.nil ((h.mark HDU.out true).base)⟩)
   have HE2 : Hid (F = (o2.bind fun q => if n < q.1 + m then none else (cpy B (z - (i + 1)) (i + 1) (ref'.drop (q.1 + m)) q.2).map fun t => ((if i % 2 = 0 then ref'.take (q.1 + m) else []) ++ t.1,t.2)).map fun t => (if z % 2 = 0 then l ++ t.1 ++ t.2.1 else l ++ t.1,t.2.2)) := Lib.hid (by
    have h := HE.out (by trivial)
    rw [show z - i = (z - (i + 1)) + 1 by omega] at h
    rw [h]
    show Option.map _ ((tk B .gam ref'.length a').bind _) = _
    rw [HN'.out,ho2,<- HM.out])
   cases o2 with
   | none =>
    obtain ⟨rfl,rfl⟩ := P2.out
    have FF : Hid (F = none) := Lib.hid (by rw [HE2.out]; rfl)
    clear P2 HE HE2 HO2 ho2 HM
    go_wp2_with fail
    refine bodyPost_ret (v := .slice none 0 0) (by simp [results,Tryz.results79,go_sem]) rfl (FN.out _ _ _ H2.out FF.out)
   | some q =>
    obtain ⟨y,a3⟩ := q
    obtain ⟨rfl,rfl,rfl⟩ := P2.out
    have hz2 : z2 <= n := by
     unfold tk at ho2
     cases hr : rd .gam (B.drop a') with
     | none => rw [hr] at ho2; cases ho2
     | some q2 =>
      rw [hr] at ho2
      simp only [Option.bind_some] at ho2
      split at ho2
      ·injection ho2 with ho2
       injection ho2 with h1 h2
       subst h1
       assumption
      ·cases ho2
    obtain ⟨k,hk⟩ : ∃ k,z2 + m = k := ⟨_,rfl⟩
    have hki : (z2 : Int) + (m : Int) = (k : Int) := by omega
    rw [Option.bind_some] at HE2
    dsimp only at HE2
    rw [hk] at HE2
    have hm1 : m <= 1 := by have := HM.out; omega
    clear P2 HE HO2 ho2 HM hm1
    by_cases hkn : n < k
    ·have FF : Hid (F = none) := Lib.hid (by rw [HE2.out,if_pos hkn]; rfl)
     have i2 : decide ((n : Int) < (k : Int)) = true := decide_eq_true (by omega)
     have i2n : decide (n < k) = true := decide_eq_true (by omega)
     clear HE2 hkn
     go_wp2_with fail
     refine bodyPost_ret (v := .slice none 0 0) (by simp [results,Tryz.results79,go_sem]) rfl (FN.out _ _ _ H2.out FF.out)
    ·have i2 : decide ((n : Int) < (k : Int)) = false := decide_eq_false (by omega)
     have i2n : decide (n < k) = false := decide_eq_false (by omega)
     rw [if_neg hkn,Option.map_map] at HE2
     have hpar : ∃ p : Nat,i % 2 = p /\ bits .and .i64 (i : Int) 1 = (p : Int) /\ p < 2 := ⟨_,rfl,and1 i (by omega),Nat.mod_lt _ (by decide)⟩
     obtain ⟨par,hp1,hp2,hp3⟩ := hpar
     rw [hp1] at HE2
     have hkn2 : k <= n := by omega
     clear hp1 hkn
     have HLV2 := Lib.hid (LL.out _ _ _ _ _ H2.out _ _ HL.out.1 HL.out.2.1)
     have TKl : Hid ((ref'.take k).length = k) := Lib.hid (by rw [List.length_take,HN'.out]; omega)
     have DRl : Hid ((ref'.drop k).length = n - k) := Lib.hid (by rw [List.length_drop,HN'.out])
     have C3 : Hid (l.length + k <= maxLen) := Lib.hid (by simp only [maxLen]; omega)
     have C4 : Hid ((l.length + k) * 4 <= 140737488355328) := Lib.hid (by omega)
     have NB : Hid ((∀ v ∈ ref'.take k,v < 65536) /\ ∀ v ∈ ref'.drop k,v < 65536) := Lib.hid ⟨fun v hv => HL.out.2.2.1 v (List.mem_of_mem_take hv),fun v hv => HL.out.2.2.1 v (List.mem_of_mem_drop hv)⟩
     have NE : Hid (par = 0 -> F = (cpy B (z - (i + 1)) (i + 1) (ref'.drop k) a2).map fun t => (if z % 2 = 0 then (l ++ ref'.take k) ++ t.1 ++ t.2.1 else (l ++ ref'.take k) ++ t.1,t.2.2)) := Lib.hid (fun h => by
      rw [HE2.out,h]
      congr 1
      funext t
      simp [List.append_assoc])
     have NO : Hid (par = 1 -> F = (cpy B (z - (i + 1)) (i + 1) (ref'.drop k) a2).map fun t => (if z % 2 = 0 then l ++ t.1 ++ t.2.1 else l ++ t.1,t.2.2)) := Lib.hid (fun h => by
      rw [HE2.out,h]
      congr 1)
     clear HE2
     cases ar' with
     | none =>
      have hn0 : n = 0 := by
       rcases Nat.eq_zero_or_pos n with h | h
       ·exact h
       ·obtain ⟨_,_,e⟩ := HL.out.1.addr (by rw [HN'.out]; exact h)
        cases e
      obtain rfl : k = 0 := by omega
      subst hn0
      have hr : ref' = [] := List.eq_nil_of_length_eq_zero HN'.out
      subst hr
      by_cases hpe : par = 0
      ·subst hpe
       go_wp2_with (at_builtin; refine wpList_append_lv _ rfl _ _ 34 rfl 0 77 j0 _ 4 Tryz.underlying34 hj hj0 hj1 hj2 rfl _ l.length _ rfl H2.out.1 none 0 cap' ([] : List Nat) rfl TKl.out LV.nil C3.out C4.out (Nat.zero_le _) ?_)
       intro v' w' own' hg hw
       have HA2 : Hid (TR x d t u w rb qb s a2 false ks (l ++ []) v' w') := Lib.hid (H2.out.add HDU.out [] 0 rfl own' hg hw)
       obtain ⟨av,dv,rfl⟩ := own_shape own'
       clear own' hg hw C3 C4
       go_wp2_with fail
       go_roundw
       case rel => exact ⟨i + 1,_,[],_,l ++ [],a2,rfl,by go_num,by omega,Nat.zero_le _,by omega,LV.nil,Apt.nil,fun v hv => (by cases hv),by rw [List.append_nil]; exact hlr,by rw [List.append_nil]; exact HL.out.2.2.2,fun _ => NE.out (by trivial),HA2.out⟩
       case measure => simp [intOf]; omega
      ·obtain rfl : par = 1 := by omega
       clear C3 C4
       go_wp2_with fail
       go_roundw
       case rel => exact ⟨i + 1,_,[],_,l,a2,rfl,by go_num,by omega,Nat.zero_le _,by omega,LV.nil,Apt.nil,fun v hv => (by cases hv),hlr,HL.out.2.2.2,fun _ => NO.out (by trivial),H2.out⟩
       case measure => simp [intOf]; omega
     | some ad =>
      have NX := Lib.hid (And.intro (HL.out.1.cut (cap := cap') (k := k) (by rw [HN'.out]; exact hc1) (by rw [HN'.out]; exact hkn2)) (HL.out.2.1.cut HL.out.1 (cap := cap') (k := k) (by rw [HN'.out]; exact hc1) (by rw [HN'.out]; exact hkn2)))
      by_cases hpe : par = 0
      ·subst hpe
       go_wp2_with (at_builtin; refine wpList_append_lv _ rfl _ _ 34 rfl 0 77 j0 _ 4 Tryz.underlying34 hj hj0 hj1 hj2 rfl _ l.length _ rfl H2.out.1 (some ad) k cap' (ref'.take k) rfl TKl.out (HLV2.out.take k) C3.out C4.out (Nat.zero_le _) ?_)
       intro v' w' own' hg hw
       have HA2 : Hid (TR x d t u w rb qb s a2 false ks (l ++ ref'.take k) v' w') := Lib.hid (H2.out.add HDU.out (ref'.take k) k TKl.out own' hg hw)
       obtain ⟨av,dv,rfl⟩ := own_shape own'
       clear own' hg hw C3 C4
       go_wp2_with fail
       go_roundw
       case rel => exact ⟨i + 1,_,ref'.drop k,_,l ++ ref'.take k,a2,by rw [DRl.out],by go_num,by omega,by rw [DRl.out]; omega,by omega,NX.out.1,NX.out.2,NB.out.2,by rw [List.length_append,TKl.out,DRl.out]; omega,fun v hv => (List.mem_append.1 hv).elim (HL.out.2.2.2 v) (NB.out.1 v),fun _ => NE.out (by trivial),HA2.out⟩
       case measure => simp [intOf]; omega
      ·obtain rfl : par = 1 := by omega
       clear C3 C4
       go_wp2_with fail
       go_roundw
       case rel => exact ⟨i + 1,_,ref'.drop k,_,l,a2,by rw [DRl.out],by go_num,by omega,by rw [DRl.out]; omega,by omega,NX.out.1,NX.out.2,NB.out.2,by rw [DRl.out]; omega,HL.out.2.2.2,fun _ => NO.out (by trivial),H2.out⟩
       case measure => simp [intOf]; omega
  ·have hiz : i = z := by omega
   subst hiz
   have i1 : decide ((i : Int) < (i : Int)) = false := decide_eq_false (by omega)
   have hpar : ∃ p : Nat,i % 2 = p /\ bits .and .i64 (i : Int) 1 = (p : Int) /\ p < 2 := ⟨_,rfl,and1 i (by omega),Nat.mod_lt _ (by decide)⟩
   obtain ⟨par,hp1,hp2,hp3⟩ := hpar
   have NE : Hid (par = 0 -> CopP F n0 (l ++ ref') a' bd) := Lib.hid (fun h => ⟨by rw [List.length_append,HN'.out]; exact hlr,fun v hv => (List.mem_append.1 hv).elim (HL.out.2.2.2 v) (HL.out.2.2.1 v),fun hb => (B1.out hb).2,fun hb => by
    rw [HE.out hb,Nat.sub_self,hp1,h]
    show some ((if 0 = 0 then l ++ [] ++ ref' else l ++ []),a') = _
    rw [if_pos rfl,List.append_nil]⟩)
   have NO : Hid (par = 1 -> CopP F n0 l a' bd) := Lib.hid (fun h => ⟨by omega,HL.out.2.2.2,fun hb => (B1.out hb).2,fun hb => by
    rw [HE.out hb,Nat.sub_self,hp1,h]
    show some ((if 1 = 0 then l ++ [] ++ ref' else l ++ []),a') = _
    rw [if_neg (by decide),List.append_nil]⟩)
   clear hp1 HE hlt hT
   by_cases hpe : par = 0
   ·subst hpe
    have C3 : Hid (l.length + n <= maxLen) := Lib.hid (by simp only [maxLen]; omega)
    have C4 : Hid ((l.length + n) * 4 <= 140737488355328) := Lib.hid (by omega)
    go_wp2_with (at_builtin; refine wpList_append_lv _ rfl _ _ 34 rfl 0 77 j0 _ 4 Tryz.underlying34 hj hj0 hj1 hj2 rfl _ l.length _ rfl HT.out.1 ar' n cap' ref' rfl HN'.out HLVr.out C3.out C4.out (Nat.zero_le _) ?_)
    intro v' w' own' hg hw
    have HA2 : Hid (TR x d t u w rb qb s a' bd ks (l ++ ref') v' w') := Lib.hid (HT.out.add HDU.out ref' n HN'.out own' hg hw)
    clear own' hg hw C3 C4
    go_wp2_with fail
    go_ret
    exact ⟨_,_,_,_,rfl,NE.out (by trivial),HA2.out⟩
   ·obtain rfl : par = 1 := by omega
    go_wp2_with fail
    go_ret
    exact ⟨_,_,_,_,rfl,NO.out (by trivial),HT.out⟩
theorem xor_i64 (a b : Int) : bits .xor .i64 a b = bits .xor .i64 b a := by
 show IntKind.i64.wrap ((BitVec.ofInt 64 a ^^^ BitVec.ofInt 64 b).toNat : Int) = IntKind.i64.wrap ((BitVec.ofInt 64 b ^^^ BitVec.ofInt 64 a).toNat : Int)
 rw [BitVec.xor_comm]
theorem xor_i64_0 (x : Nat) (hx : x < 9223372036854775808) : bits .xor .i64 (x : Int) 0 = (x : Int) := by
 show IntKind.i64.wrap ((BitVec.ofInt 64 (x : Int) ^^^ BitVec.ofInt 64 0).toNat : Int) = _
 rw [show BitVec.ofInt 64 0 = 0#64 from rfl,BitVec.xor_zero,BitVec.ofInt_natCast,BitVec.toNat_ofNat,Nat.mod_eq_of_lt (by omega),IntKind.wrap_i64]
 omega
theorem zag_bits (u : Nat) (hu : u < 4611686018427387904) : bits .xor .i64 ((u / 2 : Nat) : Int) (-((u % 2 : Nat) : Int)) = zag u := by
 unfold zag
 rcases Nat.mod_two_eq_zero_or_one u with h | h
 ·rw [h,if_pos rfl]
  exact xor_i64_0 _ (by omega)
 ·rw [h,if_neg (by decide),xor_i64]
  exact Lib.i64_not _ (by omega)
theorem u64_half (u : Nat) : (u : Int) / 2 = ((u / 2 : Nat) : Int) := by omega
set_option maxRecDepth 100000 in
theorem Zag_any (u : Nat) (hu : u < 4611686018427387904) (w : World) : Calls Tryz.prog 108 #[.int .u64 (u : Int)] w fun e w' => e = .returned (.int .i64 (zag u)) ∧ w = w' := by
 have zb := zag_bits u hu
 rw [<- u64_half,show ((u % 2 : Nat) : Int) = (u : Int) % 2 by omega] at zb
 have A1 : bits .and .u64 (u : Int) 1 = (u : Int) % 2 := Lib.u64_and1 _ (by omega) (by omega)
 obtain ⟨z,hz⟩ : ∃ z,zag u = z := ⟨_,rfl⟩
 rw [hz] at zb ⊢
 clear hz
 go_enter Tryz.func108,Tryz.ntmps108
 go_wp2_with fail
 go_ret
 exact ⟨rfl,rfl⟩
def endI : Option Nat → Int
 | none => -1
 | some e => (e : Int)
theorem rowFrom_bound {x : Nat} (hx : x < 65536) {e : Option Nat} (he : ∀ e', e = some e' → e' < 65536) {v : Nat} (hv : v ≤ 262144) : -200000 ≤ rowFrom x e v ∧ rowFrom x e v ≤ 400000 := by
 cases e with
 | none =>
  show -200000 <= zag v + x /\ zag v + x <= 400000
  unfold zag
  split <;> omega
 | some e =>
  have := he e rfl
  show -200000 <= (v : Int) + ((e : Int) + 2) /\ (v : Int) + ((e : Int) + 2) <= 400000
  omega
theorem TakeP.le {B : Bits} {c : Cd} {most a : Nat} {bad bad' : Bool} {v a' : Nat} (h : TakeP (tk B c most a) bad v a' bad') : v ≤ most := by
 unfold TakeP at h
 cases hr : tk B c most a with
 | none => rw [hr] at h; have := h.1; omega
 | some q =>
  rw [hr] at h
  have h1 := h.1
  unfold tk at hr
  cases hr2 : rd c (B.drop a) with
  | none => rw [hr2] at hr; cases hr
  | some q2 =>
   rw [hr2] at hr
   simp only [Option.bind_some] at hr
   split at hr
   ·injection hr with hr
    subst hr
    omega
   ·cases hr
set_option maxRecDepth 100000 in
set_option maxHeartbeats 6400000 in
theorem long_any (x : Nat → Nat) (d t u : Nat) (hdt : d ≠ t) (hdu : d ≠ u) (htu : t ≠ u) (w : World) (hG : GL w) (hgl : GlC x d t u) (rb qb : Nat) (s : ByteArray) (a : Nat) (ks : List (Nat × Obj)) (W : World) (h : TK x d t u w rb qb s a false ks W)
  (xv most itv : Nat) (hx : xv < 65536) (hm : most <= 65536) (hi1 : 1 <= itv) (hi2 : itv <= 64) :
  Calls Tryz.prog 80 #[.pointer (some ⟨qb,0,none⟩),.int .i64 (xv : Int),.int .i64 (most : Int),.int .i64 (itv : Int)] W (ListE (CopP (longs (unpack (nats s)) xv most itv a) most) x d t u w rb qb s ks) := by
 obtain ⟨j0,hj,hj0,hj1,hj2⟩ := info_parts Tryz.infoU32
 have H0 := Lib.hid (TR.nil h)
 have GG := Lib.hid (fun W l v a bad (h : TR x d t u w rb qb s a bad ks l v W) => h.re.gl hG hgl)
 have HDU := Lib.hid hdu
 have TT : Hid (∀ W l v a bad (_ : TR x d t u w rb qb s a bad ks l v W) (mi : Int) (most : Nat) (_ : mi = (most : Int)) (_ : most <= 1000000),Calls Tryz.prog 107 #[.pointer (some ⟨qb,0,none⟩),cdV .gam,.int .i64 mi] W fun e w' =>
   ∃ z a' : Nat,∃ bad' : Bool,e = .returned (.int .i64 (z : Int)) /\ TakeP (tk (unpack (nats s)) .gam most a) bad z a' bad' /\ TR x d t u w rb qb s a' bad' ks l v w') := Lib.hid (fun W l v a bad h mi most e hm => by
  subst e
  exact h.take hdt hdu htu .gam trivial most hm)
 obtain ⟨B,hB⟩ : ∃ B,unpack (nats s) = B := ⟨_,rfl⟩
 rw [hB] at TT ⊢
 obtain ⟨F,hF⟩ : ∃ F,longs B xv most itv a = F := ⟨_,rfl⟩
 have HF : Hid (F = (tk B .gam most a).bind fun q => lng B xv most itv q.1 none 0 q.2) := Lib.hid (by rw [<- hF]; rfl)
 rw [hF]
 unfold cdV at TT
 clear hG hgl hdt hdu htu h hB hF
 go_enter Tryz.func80,Tryz.ntmps80
 have g := GG.out _ _ _ _ _ H0.out
 have gg0 := g.g0
 have gg1 := g.g1
 have T1 := Lib.hid (TT.out _ _ _ _ _ H0.out (most : Int) most rfl (by omega))
 clear g
 go_wp2_with fail
 go_step3
 go_wp2_with fail
 go_step3
 go_wp2_with fail
 with_reducible refine T1.out.mono ?_
 rintro e w1 ⟨z,a1,bad1,rfl,hp,h1⟩
 have hz : z <= most := hp.le
 have ST : Hid (∃ bad : Bool,bad = bad1 /\ (bad = true -> z = 0 /\ F = none) /\ (bad = false -> F = (lng B xv most itv z none 0 a1).map fun t => ([] ++ t.1,t.2))) := Lib.hid (by
  unfold TakeP at hp
  cases ho : tk B .gam most a with
  | none =>
   rw [ho] at HF hp
   obtain ⟨rfl,rfl⟩ := hp
   exact ⟨true,rfl,fun _ => ⟨rfl,HF.out⟩,fun h => (by cases h)⟩
  | some q =>
   rw [ho] at HF hp
   obtain ⟨rfl,rfl,rfl⟩ := hp
   refine ⟨false,rfl,fun h => (by cases h),fun _ => ?_⟩
   rw [HF.out,Option.bind_some]
   cases lng B xv most itv q.1 none 0 q.2 <;> rfl)
 obtain ⟨bd,rfl,hb1,hb2⟩ := ST.out
 have H1 := Lib.hid h1
 have B1 := Lib.hid hb1
 have B2 := Lib.hid hb2
 clear ST hp h1 hb1 hb2 T1 HF gg0 gg1 H0
 go_wp2_with fail
 go_loopw [9,10,18] (fun v9 v10 v18 wr => ∃ (i : Nat) (e : Option Nat) (l : List Nat) (a' : Nat),v10 = .int .i64 (endI e) /\ v18 = .int .i64 (i : Int) /\ i <= z /\ l.length <= most /\ (∀ v ∈ l,v < 65536) /\ (∀ e', e = some e' -> e' < 65536) /\
   (bd = false -> F = (lng B xv most itv (z - i) e l.length a').map fun t => (l ++ t.1,t.2)) /\ TR x d t u w rb qb s a' bd ks l v9 wr) (fun _ _ v18 _ => z - (intOf v18).toNat)
 case atStart => exact ⟨0,none,[],a1,rfl,rfl,Nat.zero_le _,Nat.zero_le _,fun v hv => (by cases hv),fun e' h => (by cases h),B2.out,H1.out⟩
 case round =>
  obtain ⟨i,e,l,a', rfl,rfl,hi,hll,hl', he', hE,hT⟩ := hrel
  have HL := Lib.hid (And.intro hl' he')
  have HE := Lib.hid hE
  have HT := Lib.hid hT
  obtain ⟨sv,sc,rfl⟩ := own_shape hT.1
  obtain ⟨n,hn⟩ : ∃ n,l.length = n := ⟨_,rfl⟩
  have HN := Lib.hid hn
  rw [hn] at hll HE HT ⊢
  clear hl' he' hE hn hT
  by_cases hlt : i < z
  ·have hbd : bd = false := by
    cases bd with
    | false => rfl
    | true => have := (B1.out rfl).1; omega
   subst hbd
   have i1 : decide ((i : Int) < (z : Int)) = true := decide_eq_true (by omega)
   have g := GG.out _ _ _ _ _ HT.out
   have gg0 := g.g0
   have gg1 := g.g1
   have T2 := Lib.hid (TT.out _ _ _ _ _ HT.out (262144 : Int) 262144 rfl (by decide))
   clear g
   go_wp2_with fail
   with_reducible refine T2.out.mono ?_
   rintro e2 w2 ⟨z2,a2,bad2,rfl,hp,h2⟩
   have hz2 : z2 <= 262144 := hp.le
   have H2 := Lib.hid h2
   have P2 := Lib.hid hp
   have FB := rowFrom_bound hx HL.out.2 hz2
   obtain ⟨fr,hfr⟩ : ∃ fr,rowFrom xv e z2 = fr := ⟨_,rfl⟩
   have HFR := Lib.hid hfr
   have hzz : z2 < 4611686018427387904 := by omega
   have ZG := Lib.hid (Zag_any z2 hzz w2)
   rw [hfr] at FB
   obtain ⟨fb1,fb2⟩ := FB
   clear gg0 gg1 T2 h2 hp hzz
   go_upto_if 24 with fail
   go_cut [11] from 23 to 33 (fun v11 wc => v11 = .int .i64 fr /\ wc = w2)
   case first =>
    cases e with
    | none =>
     unfold endI
     obtain ⟨g,hg⟩ : ∃ g,zag z2 = g := ⟨_,rfl⟩
     rw [hg] at ZG
     have e1 : g + (xv : Int) = fr := by rw [<- hg,<- hfr]; rfl
     clear hfr hg
     go_wp2_with fail
     with_reducible refine ZG.out.mono ?_
     rintro e3 w3 ⟨rfl,rfl⟩
     go_wp2_with fail
     go_meet
     case rel => exact ⟨rfl,rfl⟩
    | some e' =>
     unfold endI
     have e1 : (z2 : Int) + ((e' : Int) + 2) = fr := hfr
     have e2 := HL.out.2 e' rfl
     have e3 : decide ((e' : Int) < 0) = false := decide_eq_false (by omega)
     clear hfr
     go_wp2_with fail
     go_meet
     case rel => exact ⟨rfl,rfl⟩
   case rest =>
    obtain ⟨rfl,rfl⟩ := hcut
    have g := GG.out _ _ _ _ _ H2.out
    have gg0 := g.g0
    have gg1 := g.g1
    have T3 := Lib.hid (TT.out _ _ _ _ _ H2.out (most : Int) most rfl (by omega))
    clear g hfr ZG
    go_wp2_with fail
    with_reducible refine T3.out.mono ?_
    rintro e3 w3 ⟨z3,a3,bad3,rfl,hp,h3⟩
    have hz3 : z3 <= most := hp.le
    have H3 := Lib.hid h3
    have P3 := Lib.hid hp
    obtain ⟨q0,q1,qf⟩ := h3.cells
    obtain ⟨nn,hnn⟩ : ∃ nn,z3 + itv = nn := ⟨_,rfl⟩
    have hnI : (z3 : Int) + (itv : Int) = (nn : Int) := by omega
    have EQ : Hid (F = ((tk B .gam 262144 a').bind fun q => (tk B .gam most q.2).bind fun q2 =>
   if rowFrom xv e q.1 < 0 \/ 65536 < rowFrom xv e q.1 + ((q2.1 + itv : Nat) : Int) \/ most < n + (q2.1 + itv) then none else
   (lng B xv most itv (z - (i + 1)) (some ((rowFrom xv e q.1).toNat + (q2.1 + itv) - 1)) (n + (q2.1 + itv)) q2.2).map fun t => (row ((rowFrom xv e q.1).toNat,q2.1 + itv) ++ t.1,t.2)).map fun t => (l ++ t.1,t.2)) := Lib.hid (by
     have h := HE.out (by trivial)
     rw [show z - i = (z - (i + 1)) + 1 by omega] at h
     exact h)
    have BAD : Hid (bad3 = true \/ fr < 0 \/ 65536 < fr + (nn : Int) \/ most < n + nn -> F = none) := Lib.hid (fun hb => by
     rw [EQ.out]
     have p2 := P2.out
     have p3 := P3.out
     unfold TakeP at p2
     cases ho : tk B .gam 262144 a' with
     | none => rfl
     | some q =>
      rw [ho] at p2
      obtain ⟨rfl,rfl,rfl⟩ := p2
      unfold TakeP at p3
      rw [Option.bind_some]
      cases ho3 : tk B .gam most q.2 with
      | none => rfl
      | some q3 =>
       rw [ho3] at p3
       obtain ⟨rfl,rfl,rfl⟩ := p3
       rw [Option.bind_some,HFR.out,hnn]
       rcases hb with hb | hb
       ·cases hb
       ·rw [if_pos hb]
        rfl)
    have GOOD : Hid (bad3 = false /\ ¬ (fr < 0 \/ 65536 < fr + (nn : Int) \/ most < n + nn) -> F = (lng B xv most itv (z - (i + 1)) (some (fr.toNat + nn - 1)) (n + nn) a3).map fun t => ((l ++ List.range' fr.toNat nn) ++ t.1,t.2)) := Lib.hid (fun hb => by
     rw [EQ.out]
     have p2 := P2.out
     have p3 := P3.out
     unfold TakeP at p2
     cases ho : tk B .gam 262144 a' with
     | none =>
      rw [ho] at p2
      obtain ⟨rfl,rfl⟩ := p2
      unfold TakeP at p3
      split at p3
      ·rw [hb.1] at p3
       exact absurd p3.2.2 (by decide)
      ·rw [hb.1] at p3
       exact absurd p3.2 (by decide)
     | some q =>
      rw [ho] at p2
      obtain ⟨rfl,rfl,rfl⟩ := p2
      unfold TakeP at p3
      rw [Option.bind_some]
      cases ho3 : tk B .gam most q.2 with
      | none =>
       rw [ho3] at p3
       rw [hb.1] at p3
       exact absurd p3.2 (by decide)
      | some q3 =>
       rw [ho3] at p3
       obtain ⟨rfl,rfl,rfl⟩ := p3
       rw [Option.bind_some,HFR.out,hnn,if_neg hb.2,Option.map_map]
       congr 1
       funext t
       simp [row,List.append_assoc])
    clear gg0 gg1 T3 h3 hp hnn EQ P2 P3 HE
    have OUT : Hid (F = none -> ListE (CopP F most) x d t u w rb qb s ks (Ending.returned (.slice sv n sc)) (w3.setCell ⟨qb,1,none⟩ (.bool true))) := Lib.hid (fun hf => ⟨_,l,a3,true,rfl,⟨by rw [HN.out]; exact hll,HL.out.1,fun _ => hf,fun h => (by cases h)⟩,H3.out.mark HDU.out true⟩)
    by_cases hb : bad3 = true \/ fr < 0 \/ 65536 < fr + (nn : Int) \/ most < n + nn
    ·have HO := Lib.hid (OUT.out (BAD.out hb))
     clear OUT BAD GOOD
     rcases Bool.eq_false_or_eq_true bad3 with rfl | rfl
     ·clear hb
      go_wp2_with fail
      rw [Exit.noGoto_ret]
      go_ret
      exact HO.out
     ·replace hb : fr < 0 \/ 65536 < fr + (nn : Int) \/ most < n + nn := hb.resolve_left (by decide)
      by_cases c1 : fr < 0
      ·have i2 : decide (fr < 0) = true := decide_eq_true c1
       clear hb
       go_wp2_with fail
       rw [Exit.noGoto_ret]
       go_ret
       exact HO.out
      ·have i2 : decide (fr < 0) = false := decide_eq_false c1
       by_cases c2 : 65536 < fr + (nn : Int)
       ·have i3 : decide (65536 < fr + (nn : Int)) = true := decide_eq_true c2
        clear hb
        go_wp2_with fail
        rw [Exit.noGoto_ret]
        go_ret
        exact HO.out
       ·have i3 : decide (65536 < fr + (nn : Int)) = false := decide_eq_false c2
        have i4 : decide ((most : Int) - (n : Int) < (nn : Int)) = true := decide_eq_true (by omega)
        clear hb
        go_wp2_with fail
        rw [Exit.noGoto_ret]
        go_ret
        exact HO.out
    ·have hb3 : bad3 = false := by
      cases bad3 with
      | false => rfl
      | true => exact absurd (.inl rfl) hb
     subst hb3
     have hb2 : ¬ (fr < 0 \/ 65536 < fr + (nn : Int) \/ most < n + nn) := fun h => hb (.inr h)
     have GO2 := Lib.hid (GOOD.out ⟨rfl,hb2⟩)
     obtain ⟨f,rfl⟩ : ∃ f : Nat,fr = (f : Int) := ⟨fr.toNat,by omega⟩
     rw [Int.toNat_natCast] at GO2
     have i2 : decide ((f : Int) < 0) = false := decide_eq_false (by omega)
     have i3 : decide (65536 < (f : Int) + (nn : Int)) = false := decide_eq_false (by omega)
     have i4 : decide ((most : Int) - (n : Int) < (nn : Int)) = false := decide_eq_false (by omega)
     have k1 : f + nn <= 65536 := by omega
     have k2 : n + nn <= most := by omega
     have k3 : 1 <= nn := by omega
     clear hb hb2 OUT BAD GOOD
     go_wp2_with fail
     have H4 := Lib.hid (H3.out.mark HDU.out false)
     generalize World.setCell w3 _ _ = w4 at H4 ⊢
     clear q0 q1 qf
     go_loopw [9,70] (fun v9 v70 wr => ∃ j : Nat,v70 = .int .i64 (j : Int) /\ j <= nn /\ TR x d t u w rb qb s a3 false ks (l ++ List.range' f j) v9 wr) (fun _ v70 _ => nn - (intOf v70).toNat)
     case atStart => exact ⟨0,rfl,Nat.zero_le _,by rw [List.range'_zero,List.append_nil]; exact H4.out⟩
     case round =>
      obtain ⟨j,rfl,hj9,hT⟩ := hrel
      have HT5 := Lib.hid hT
      obtain ⟨sv5,sc5,rfl⟩ := own_shape hT.1
      have hll5 : (l ++ List.range' f j).length = n + j := by rw [List.length_append,HN.out,List.length_range']
      rw [hll5] at HT5 ⊢
      obtain ⟨n5,hn5⟩ : ∃ m,n + j = m := ⟨_,rfl⟩
      rw [hn5] at HT5 ⊢
      have HL5 : Hid ((l ++ List.range' f j).length = n5) := Lib.hid (by rw [<- hn5,hll5])
      clear hT hll5
      by_cases hlt5 : j < nn
      ·have i5 : decide ((j : Int) < (nn : Int)) = true := decide_eq_true (by omega)
       obtain ⟨v,hv⟩ : ∃ v,f + j = v := ⟨_,rfl⟩
       have HV := Lib.hid hv
       have i6 : (f : Int) + (j : Int) = (v : Int) := by omega
       have i7 : v < 65536 := by omega
       have OWN1 := Lib.hid (HL5.out ▸ HT5.out.1.alloc (.cells #[.int .u32 (v : Int)] 77))
       have C1 : Hid (∀ j u,([Value.int .u32 (v : Int)] : List Value)[j]? = some u -> (wr.alloc (.cells #[.int .u32 (v : Int)] 77)).cell? ((⟨wr.heap.size,0,none⟩ : Addr).add j) = some u) := Lib.hid (fun j u hu => by
        rw [Addr.add_lit,cell_of_row _ _ _ _ _ _ (heap_alloc_new _ _),Nat.zero_add]; simpa using hu)
       have C3 : Hid (n5 + 1 <= maxLen) := Lib.hid (by simp only [maxLen]; omega)
       have C4 : Hid ((n5 + 1) * 4 <= 140737488355328) := Lib.hid (by omega)
       clear hv
       go_wp2_with (at_builtin; refine wpList_append_at _ rfl _ _ 34 rfl 0 77 j0 _ 1 4 Tryz.underlying34 hj hj0 hj1 hj2 rfl (by decide) _ n5 _ rfl OWN1.out ⟨wr.heap.size,0,none⟩ 1 1 [.int .u32 (v : Int)] rfl rfl C1.out (fun u hu => by simp at hu; subst hu; rfl) C3.out C4.out (Nat.zero_le _) (by decide) ?_)
       intro v' w' own' hg hw
       have HA2 : Hid (TR x d t u w rb qb s a3 false ks (l ++ List.range' f (j + 1)) v' w') := Lib.hid (by
        have h := (HT5.out.next ((Below.refl _ _).alloc (Nat.le_refl _) (.cells #[.int .u32 (v : Int)] 77))).add HDU.out [v] 1 rfl (by rw [HL5.out]; exact own') hg (by simpa using hw)
        rw [List.range'_1_concat,<- List.append_assoc,HV.out]
        exact h)
       obtain ⟨av,dv,rfl⟩ := own_shape own'
       clear own' hg hw C1 C3 C4 OWN1
       go_wp2_with fail
       go_roundw
       case rel => exact ⟨j + 1,by go_num,by omega,HA2.out⟩
       case measure => simp [intOf]; omega
      ·obtain rfl : j = nn := by omega
       have i5 : decide ((j : Int) < (j : Int)) = false := decide_eq_false (by omega)
       go_wp2_with fail
       go_roundw
       case rel => exact ⟨i + 1,some (f + j - 1),l ++ List.range' f j,a3,by show _ = Value.int .i64 ((f + j - 1 : Nat) : Int); go_num,by go_num,by omega,by rw [HL5.out]; omega,fun v hv => (List.mem_append.1 hv).elim (HL.out.1 v) (fun h => by rw [List.mem_range'_1] at h; omega),fun e' h => by injection h with h; omega,fun _ => by rw [HL5.out,<- hn5]; exact GO2.out,HT5.out⟩
       case measure => simp [intOf]; omega
  ·have hiz : i = z := by omega
   subst hiz
   have i1 : decide ((i : Int) < (i : Int)) = false := decide_eq_false (by omega)
   have HO : Hid (ListE (CopP F most) x d t u w rb qb s ks (Ending.returned (.slice sv n sc)) wr) := Lib.hid ⟨_,l,a', bd,rfl,⟨by rw [HN.out]; exact hll,HL.out.1,fun h => (B1.out h).2,fun h => by
    rw [HE.out h,Nat.sub_self]
    show some (l ++ [],a') = _
    rw [List.append_nil]⟩,HT.out⟩
   clear HE hlt
   go_wp2_with fail
   try rw [Exit.noGoto_ret]
   go_ret
   exact HO.out
end Go.Proofs.YtflnpcgnenhogaaGreatDoor.ls
