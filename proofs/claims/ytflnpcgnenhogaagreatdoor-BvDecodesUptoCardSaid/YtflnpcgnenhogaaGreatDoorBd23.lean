/- Own lemmas, laid together. -/
import Derived.Test.YtflnpcgnenhogaaGreatDoorBd21
import Derived.Defers
namespace Go.Proofs.YtflnpcgnenhogaaGreatDoor.ls
open Go.RowKit Go.Proofs.YtflnpcgnenhogaaGreatDoor.own Go.Proofs.YtflnpcgnenhogaaGreatDoor.bit

theorem At_any (x : Nat → Nat) (d : Nat) (w : World) (rb : Nat) (s : ByteArray) (a : Nat) (h : RdC x d w rb s a) :
  Calls Tryz.prog 14 #[.pointer (some ⟨rb,0,none⟩)] w fun e w' => e = .returned (.int .i64 (a : Int)) /\ w = w' := by
 obtain ⟨h0,-,-,-⟩ := h
 have c1 : w.cell? ⟨rb,1,none⟩ = some (.int .i64 (a : Int)) := by rw [cell_of_row w rb _ _ _ _ h0]; rfl
 clear h0
 go_enter Tryz.func14,Tryz.ntmps14
 go_wp2_with fail
 go_ret
 exact ⟨rfl,rfl⟩

theorem back_no (pe pr pa : Addr) (u : FrameMode) (w : World) (h : w.cell? pe = some (.int .i64 0)) :
  CallsD Tryz.prog 73 #[.pointer (some pe),.pointer (some pr),.pointer (some pa)] u w fun e u' w' => u' = u /\ (e = .returned (.tuple #[]) /\ w = w') := by
 go_enter_d Tryz.func73,Tryz.ntmps73
 go_wp2_with fail
 go_end0
 exact ⟨rfl,rfl⟩
theorem back_yes (x : Nat → Nat) (d : Nat) (s : ByteArray) (rb a a0 : Nat) (pe pr pa : Addr) (u : FrameMode) (w : World) (h : w.cell? pe = some (.int .i64 4)) (hr : w.cell? pr = some (.pointer (some ⟨rb, 0, none⟩))) (ha : w.cell? pa = some (.int .i64 (a0 : Int)))
  (hR : RdC x d w rb s a) (ha0 : a0 <= 8 * s.size) :
  CallsD Tryz.prog 73 #[.pointer (some pe),.pointer (some pr),.pointer (some pa)] u w fun e u' w' => u' = u /\ (e = .returned (.tuple #[]) /\ Fr x x (fun e => e = d) w w' /\ RdC x d w' rb s a0) := by
 have SK := Lib.hid (Seek_any x d s a a0 rb w hR ha0)
 clear hR
 go_enter_d Tryz.func73,Tryz.ntmps73
 go_wp2_with fail
 with_reducible refine SK.out.mono ?_
 rintro e w1 ⟨rfl,h1,h2⟩
 have H := Lib.hid (And.intro h1 h2)
 clear h1 h2
 go_wp2_with fail
 go_end0
 exact ⟨rfl,H.out⟩

theorem RQ.make {x : Nat → Nat} {d t : Nat} {w W : World} {rb qb a : Nat} {s : ByteArray} {ks : List (Nat × Obj)} (hr : RdC x d w rb s a) (k : Below w.heap.size w W) (hq : w.heap.size ≤ qb) (hq2 : W.heap[qb]? = some (.cells #[.pointer (some ⟨rb, 0, none⟩), .bool false] 142 (0, 0)))
  (hk : ∀ p ∈ ks,w.heap.size <= p.1 /\ p.1 ≠ qb /\ W.heap[p.1]? = some p.2) : RQ x d t w rb qb s a false ks W := by
 obtain ⟨hr1,hr2,hr3⟩ := hr
 exact ⟨paint x w.heap.size t,(Fr.of_below (x := x) (C := fun e => e = d \/ e = t) k (c := t) (.inr rfl)),⟨(k.block _ (lt_of_block hr1)).trans hr1,(paint_old (lt_of_block hr1)).trans hr2,hr3⟩,⟨paint_new hq,hq2⟩,fun p hp => ⟨paint_new (hk p hp).1,(hk p hp).2⟩⟩
theorem RQ.write {x : Nat → Nat} {d t : Nat} {w W : World} {rb qb a : Nat} {s : ByteArray} {bad : Bool} {hb : Nat} {row : Array Value} {T : TypeId} {ks : List (Nat × Obj)} (h : RQ x d t w rb qb s a bad ((hb, .cells row T (0, 0)) :: ks) W) (hdt : d ≠ t) (hne : ∀ p ∈ ks, p.1 ≠ hb) (j : Nat) (v : Value) :
  RQ x d t w rb qb s a bad ((hb,.cells (row.setIfInBounds j v) T (0,0)) :: ks) (W.setCell ⟨hb,j,none⟩ v) := by
 obtain ⟨x', hf,⟨hr1,hr2,hr3⟩,⟨hq1,hq2⟩,hk⟩ := h
 obtain ⟨h1,h2,h3⟩ := hk _ (List.mem_cons_self ..)
 have ne : ∀ b,b ≠ hb -> (W.setCell ⟨hb,j,none⟩ v).heap[b]? = W.heap[b]? := fun b hb' => Below.heap_setCell W ⟨hb,j,none⟩ v b hb'
 have f2 : Fr x' x' (fun c => c = t) W (W.setCell ⟨hb,j,none⟩ v) := Fr.same rfl rfl rfl (by simp) (fun b _ hd => ne b (fun e => hd (by rw [e]; exact h1)))
 refine ⟨x', hf.trans (f2.mono (fun c hc => .inr hc)),⟨(ne _ (fun e => by rw [e] at hr2; exact hdt (hr2.symm.trans h1))).trans hr1,hr2,hr3⟩,⟨hq1,(ne _ (fun e => h2 e.symm)).trans hq2⟩,fun p hp => ?_⟩
 rcases List.mem_cons.1 hp with rfl | hp
 ·exact ⟨h1,h2,heap_setCell_same W hb j _ _ v h3⟩
 ·obtain ⟨h4,h5,h6⟩ := hk p (List.mem_cons_of_mem _ hp)
  exact ⟨h4,h5,(ne _ (hne p hp)).trans h6⟩

theorem RdC.below {x : Nat → Nat} {d : Nat} {w W : World} {rb a : Nat} {s : ByteArray} (h : RdC x d w rb s a) (k : Below w.heap.size w W) : RdC x d W rb s a := ⟨(k.block _ (lt_of_block h.1)).trans h.1, h.2⟩
theorem rows2 {w W : World} {a b : Array Value} {A B : TypeId} (h : (w.alloc (.cells a A)).alloc (.cells b B) = W) :
  W.heap[w.heap.size]? = some (.cells a A (0,0)) /\ W.heap[w.heap.size + 1]? = some (.cells b B (0,0)) /\ Below w.heap.size w W := by
 subst h
 have r1 := heap_alloc_new w (.cells a A)
 have r2 := heap_alloc_new (w.alloc (.cells a A)) (.cells b B)
 have z1 : (w.alloc (.cells a A)).heap.size = w.heap.size + 1 := by simp
 rw [z1] at r2
 exact ⟨(Below.heap_alloc _ _ _ (by omega)).trans r1,r2,(by repeat (first | exact Below.refl _ _ | refine below_drewN ?_ _ | refine Below.setCell ?_ (by simp; try omega) _ | refine Below.alloc ?_ (by simp; try omega) _))⟩
theorem RQ.gone {x : Nat → Nat} {d t : Nat} {w W : World} {rb qb a : Nat} {s : ByteArray} {bad : Bool} {ks : List (Nat × Obj)} (h : RQ x d t w rb qb s a bad ks W) (hdt : d ≠ t) :
  ∃ x', RdC x' d W rb s a /\ ∀ W' a', Fr x' x' (fun e => e = d) W W' -> RdC x' d W' rb s a' -> RQ x d t w rb qb s a' bad ks W' := by
 obtain ⟨x', hf,hr,⟨hq1,hq2⟩,hk⟩ := h
 refine ⟨x', hr,fun W' a' f2 hr2 => ⟨x', hf.trans (f2.mono (fun c hc => .inl hc)),hr2,⟨hq1,(f2.old _ (lt_of_block hq2) (fun e => hdt (e.symm.trans hq1))).trans hq2⟩,fun p hp => ?_⟩⟩
 obtain ⟨h1,h2,h3⟩ := hk p hp
 exact ⟨h1,h2,(f2.old _ (lt_of_block h3) (fun e => hdt (e.symm.trans h1))).trans h3⟩
theorem RQ.end_ {x : Nat → Nat} {d t : Nat} {w W : World} {rb qb a : Nat} {s : ByteArray} {bad : Bool} {ks : List (Nat × Obj)} (h : RQ x d t w rb qb s a bad ks W) : ∃ x', Fr x x' (fun e => e = d ∨ e = t) w W ∧ RdC x' d W rb s a := by
 obtain ⟨x', hf,hr,_⟩ := h
 exact ⟨x', hf,hr⟩
def rdV : Option (Nat × Nat) → Value
 | some q => .tuple #[.int .u64 (q.1 : Int),.int .i64 0]
 | none => .tuple #[.int .u64 0,.int .i64 4]
def rdA (a : Nat) : Option (Nat × Nat) → Nat
 | some q => a + q.2
 | none => a
set_option maxRecDepth 100000 in
set_option maxHeartbeats 3200000 in
theorem cread_any (x : Nat → Nat) (d t : Nat) (hdt : d ≠ t) (c : Cd) (hc : c.ok) (w : World) (rb : Nat) (s : ByteArray) (a : Nat) (h : RdC x d w rb s a) :
  Calls Tryz.prog 46 #[.pointer (some ⟨rb,0,none⟩),cdV c] w fun e w' =>
   e = .returned (rdV (rd c ((unpack (nats s)).drop a))) /\ ∃ x', Fr x x' (fun e => e = d \/ e = t) w w' /\ RdC x' d w' rb s (rdA a (rd c ((unpack (nats s)).drop a))) := by
 have hmf : ∀ (fn : Fn) (first cap : Array Value) (w : World),(Instr.makeFunc fn first cap).run Tryz.prog w = .ok (.func fn first cap) w := fun _ _ _ _ => rfl
 have CK := Lib.hid (fun W => check_any c hc W)
 have MO := Lib.hid (fun W => most_any c hc W)
 have AT := Lib.hid (fun x W h => At_any x d W rb s a h)
 have NU := Lib.hid (fun qb ks W h => qnumber_any x d t hdt c hc w rb qb s a ks W h)
 have RR := Lib.hid (rd_rd0 c hc ((unpack (nats s)).drop a))
 generalize rd0 c ((unpack (nats s)).drop a) = o at NU RR
 rw [RR.out]
 obtain ⟨kd,kk,hcd⟩ := cdV_shape c
 rw [hcd] at CK MO NU ⊢
 generalize c.most = most at MO RR ⊢
 have H := Lib.hid h
 have HDT := Lib.hid hdt
 clear hcd h hdt RR
 go_enter_defers Tryz.func46,Tryz.ntmps46
 go_upto_region 1 with fail
 generalize hW : World.alloc (World.alloc (World.alloc w _) _) _ = W0
 obtain ⟨r1,r2,r3,kb⟩ := rows3 hW
 have RW := Lib.hid (And.intro r1 (And.intro r2 r3))
 have c0 : W0.cell? ⟨w.heap.size,0,none⟩ = some (.pointer (some ⟨rb,0,none⟩)) := by rw [cell_of_row _ _ _ _ _ _ r1]; rfl
 have c1 : W0.cell? ⟨w.heap.size + 1,0,none⟩ = some (.int .u8 kd) := by rw [cell_of_row _ _ _ _ _ _ r2]; rfl
 have c2 : W0.cell? ⟨w.heap.size + 1,1,none⟩ = some (.int .u64 kk) := by rw [cell_of_row _ _ _ _ _ _ r2]; rfl
 have KB := Lib.hid kb
 clear hW kb r1 r2 r3
 go_wp2_with fail
 with_reducible refine (CK.out _).mono ?_
 rintro e w1 ⟨rfl,k1⟩
 have lz := lt_of_block RW.out.2.2
 have r1 := (k1.block _ (by omega)).trans RW.out.1
 have r2 := (k1.block _ (by omega)).trans RW.out.2.1
 have r3 := (k1.block _ lz).trans RW.out.2.2
 have K1 := Lib.hid (KB.out.trans (k1.mono KB.out.size))
 have RW1 := Lib.hid (And.intro r1 (And.intro r2 r3))
 have LZ := Lib.hid (show w.heap.size + 1 + 1 < w1.heap.size by have := k1.size; omega)
 clear c0 c1 c2 k1 RW KB lz
 have c0 : w1.cell? ⟨w.heap.size,0,none⟩ = some (.pointer (some ⟨rb,0,none⟩)) := by rw [cell_of_row _ _ _ _ _ _ r1]; rfl
 have c1 : w1.cell? ⟨w.heap.size + 1,0,none⟩ = some (.int .u8 kd) := by rw [cell_of_row _ _ _ _ _ _ r2]; rfl
 have c2 : w1.cell? ⟨w.heap.size + 1,1,none⟩ = some (.int .u64 kk) := by rw [cell_of_row _ _ _ _ _ _ r2]; rfl
 clear r1 r2 r3
 have R1 := Lib.hid (RdC.below H.out K1.out)
 go_wp2_with fail
 with_reducible refine (AT.out _ _ R1.out).mono ?_
 rintro e w2 ⟨rfl,rfl⟩
 have lz0 := LZ.out
 have d0 : (w1.alloc (.cells #[.int .i64 (a : Int)] 3)).cell? ⟨w.heap.size,0,none⟩ = some (.pointer (some ⟨rb,0,none⟩)) := by rw [World.cell?_of_block (w := w1) (Below.heap_alloc _ _ _ (by show w.heap.size < _; omega))]; exact c0
 clear c0 c1 c2
 go_upto_region 8 with fail
 clear d0
 generalize hW : World.alloc (World.alloc w1 _) _ = W2
 obtain ⟨q1,q2,kb⟩ := rows2 hW
 have K2 := Lib.hid (K1.out.trans (kb.mono K1.out.size))
 have lz := LZ.out
 obtain ⟨r1,r2,r3⟩ := RW1.out
 have r1 := (kb.block _ (by omega)).trans r1
 have r2 := (kb.block _ (by omega)).trans r2
 have r3 := (kb.block _ lz).trans r3
 obtain ⟨sz,hsz⟩ : ∃ z,w.heap.size = z := ⟨_,rfl⟩
 obtain ⟨ab,hab⟩ : ∃ z,w1.heap.size = z := ⟨_,rfl⟩
 rw [hsz,hab] at lz
 rw [hab] at q1 q2
 rw [hsz] at r1 r2 r3
 rw [hsz,hab]
 have Q0 := Lib.hid (RQ.make (t := t) (qb := ab + 1) (ks := [(sz + 1 + 1,.cells #[.int .i64 0] 30 (0,0)),(sz,.cells #[.pointer (some ⟨rb,0,none⟩)] 23 (0,0)),(ab,.cells #[.int .i64 (a : Int)] 3 (0,0)),(sz + 1,.cells #[.int .u8 kd,.int .u64 kk] 101 (0,0))]) H.out K2.out (by rw [hsz]; omega) q2 (fun p hp => by
  simp only [List.mem_cons,List.not_mem_nil,or_false] at hp
  rw [hsz]
  rcases hp with rfl | rfl | rfl | rfl
  ·exact ⟨by show sz <= sz + 1 + 1; omega,by show sz + 1 + 1 ≠ ab + 1; omega,r3⟩
  ·exact ⟨Nat.le_refl _,by show sz ≠ ab + 1; omega,r1⟩
  ·exact ⟨by show sz <= ab; omega,by show ab ≠ ab + 1; omega,q1⟩
  ·exact ⟨by show sz <= sz + 1; omega,by show sz + 1 ≠ ab + 1; omega,r2⟩))
 have HNE := Lib.hid (show sz ≠ sz + 1 + 1 /\ ab ≠ sz + 1 + 1 /\ sz + 1 ≠ sz + 1 + 1 by omega)
 have c0 : W2.cell? ⟨sz,0,none⟩ = some (.pointer (some ⟨rb,0,none⟩)) := by rw [cell_of_row _ _ _ _ _ _ r1]; rfl
 have c1 : W2.cell? ⟨sz + 1,0,none⟩ = some (.int .u8 kd) := by rw [cell_of_row _ _ _ _ _ _ r2]; rfl
 have c2 : W2.cell? ⟨sz + 1,1,none⟩ = some (.int .u64 kk) := by rw [cell_of_row _ _ _ _ _ _ r2]; rfl
 clear hW kb r1 r2 r3 q1 q2 lz LZ R1 K1 RW1
 go_wp2_with fail
 with_reducible refine (NU.out _ _ _ Q0.out).mono ?_
 rintro e w3 ⟨v,a1,bad,rfl,hv,h3,-,hg⟩
 have H3 := Lib.hid h3
 have HG := Lib.hid hg
 clear hg c0 c1 c2 NU lz0 r1 r2 r3
 obtain ⟨ks,hks⟩ : ∃ ks,ks = [(sz,Obj.cells #[.pointer (some ⟨rb,0,none⟩)] 23 (0,0)),(ab,.cells #[.int .i64 (a : Int)] 3 (0,0)),(sz + 1,.cells #[.int .u8 kd,.int .u64 kk] 101 (0,0))] := ⟨_,rfl⟩
 have HM1 : Hid ((sz,Obj.cells #[.pointer (some ⟨rb,0,none⟩)] 23 (0,0)) ∈ ks) := Lib.hid (by rw [hks]; simp)
 have HM2 : Hid ((ab,Obj.cells #[.int .i64 (a : Int)] 3 (0,0)) ∈ ks) := Lib.hid (by rw [hks]; simp)
 have HM3 : Hid ((sz + 1,Obj.cells #[.int .u8 kd,.int .u64 kk] 101 (0,0)) ∈ ks) := Lib.hid (by rw [hks]; simp)
 have HN : Hid (∀ p ∈ ks,p.1 ≠ sz + 1 + 1) := Lib.hid (by
  obtain ⟨n1,n2,n3⟩ := HNE.out
  rw [hks]
  intro p hp
  simp only [List.mem_cons,List.not_mem_nil,or_false] at hp
  rcases hp with rfl | rfl | rfl
  ·exact n1
  ·exact n2
  ·exact n3)
 rw [<- hks] at H3 h3
 clear hks Q0 HNE
 have FAULT : ∀ W,RQ x d t w rb (ab + 1) s a1 bad ((sz + 1 + 1,.cells #[.int .i64 0] 30 (0,0)) :: ks) W -> RQ x d t w rb (ab + 1) s a1 bad ((sz + 1 + 1,.cells #[.int .i64 4] 30 (0,0)) :: ks) (W.setCell ⟨sz + 1 + 1,0,none⟩ (.int .i64 4)) := fun W h => h.write HDT.out HN.out 0 _
 have GOOD : ∀ W,RQ x d t w rb (ab + 1) s a1 bad ((sz + 1 + 1,.cells #[.int .i64 0] 30 (0,0)) :: ks) W -> RQ x d t w rb (ab + 1) s a1 bad ((sz + 1 + 1,.cells #[.int .i64 0] 30 (0,0)) :: ks) (W.setCell ⟨sz + 1 + 1,0,none⟩ (.int .i64 0)) := fun W h => h.write HDT.out HN.out 0 _
 have FAULT := Lib.hid FAULT
 have GOOD := Lib.hid GOOD
 have HA := Lib.hid H.out.2.2.1
 have c1 : w3.cell? ⟨sz + 1,0,none⟩ = some (.int .u8 kd) := by rw [cell_of_row _ _ _ _ _ _ (h3.row (List.mem_cons_of_mem _ HM3.out))]; rfl
 have c2 : w3.cell? ⟨sz + 1,1,none⟩ = some (.int .u64 kk) := by rw [cell_of_row _ _ _ _ _ _ (h3.row (List.mem_cons_of_mem _ HM3.out))]; rfl
 have cb : w3.cell? ⟨ab + 1,1,none⟩ = some (.bool bad) := by rw [cell_of_row _ _ _ _ _ _ h3.q]; rfl
 cases bad
 ·go_wp2_with fail
  with_reducible refine (MO.out _).mono ?_
  rintro e w4 ⟨rfl,k4⟩
  have h4 := H3.out.next k4
  have H4 := Lib.hid h4
  have ce : w4.cell? ⟨sz + 1 + 1,0,none⟩ = some (.int .i64 0) := by rw [cell_of_row _ _ _ _ _ _ (h4.row (List.mem_cons_self ..))]; rfl
  have cf : ∀ j,w4.frozen? ⟨sz + 1 + 1,j,none⟩ = false := fun j => frozen_of_row w4 _ j _ _ (h4.row (List.mem_cons_self ..))
  clear c1 c2 cb k4 h4 h3 H3
  by_cases hvm : v <= most
  ·have hd : ¬ (most : Int) < (v : Int) := by omega
   have h5 := GOOD.out _ H4.out
   have H5 := Lib.hid h5
   clear h5
   go_wp2_with fail
   have h5 := H5.out
   have g1 := h5.row (List.mem_cons_self ..)
   refine leaves_cons (f := 73) (args := #[.pointer (some ⟨sz + 1 + 1,0,none⟩),.pointer (some ⟨sz,0,none⟩),.pointer (some ⟨ab,0,none⟩)]) (by simp) (by simp [go_sem]) ?_
   refine (back_no ⟨sz + 1 + 1,0,none⟩ ⟨sz,0,none⟩ ⟨ab,0,none⟩ _ _ (by rw [cell_of_row _ _ _ _ _ _ g1]; rfl)).mono ?_
   rintro e u' w9 ⟨rfl,rfl,rfl⟩
   have c9 := (show World.cell? _ ⟨sz + 1 + 1,0,none⟩ = some (.int .i64 0) by rw [cell_of_row _ _ _ _ _ _ g1]; rfl)
   have ho : ∃ n,(o.bind fun q => if q.1 <= most then some q else none) = some (v,n) /\ a1 = a + n := by
    have hg := HG.out
    cases o with
    | none => simp at hg
    | some q =>
     obtain ⟨e1,e2,-⟩ := hg trivial
     exact ⟨q.2,by rw [Option.bind_some,if_pos (by omega),e1],e2⟩
   obtain ⟨n,ho,rfl⟩ := ho
   rw [ho]
   obtain ⟨x', e1,e2⟩ := h5.end_
   have HE := Lib.hid (And.intro e1 e2)
   clear e1 e2 h5 H5
   simp [Leaves,settle,results,Tryz.results46,go_sem,c9]
   exact ⟨rfl,x', HE.out⟩
  ·have hd : (most : Int) < (v : Int) := by omega
   have h5 := FAULT.out _ H4.out
   have H5 := Lib.hid h5
   clear h5
   go_wp2_with fail
   have h5 := H5.out
   obtain ⟨x5,hr5,back⟩ := h5.gone HDT.out
   have g1 := h5.row (List.mem_cons_self ..)
   have g2 := h5.row (List.mem_cons_of_mem _ HM1.out)
   have g3 := h5.row (List.mem_cons_of_mem _ HM2.out)
   refine leaves_cons (f := 73) (args := #[.pointer (some ⟨sz + 1 + 1,0,none⟩),.pointer (some ⟨sz,0,none⟩),.pointer (some ⟨ab,0,none⟩)]) (by simp) (by simp [go_sem]) ?_
   refine (back_yes x5 d s rb a1 a ⟨sz + 1 + 1,0,none⟩ ⟨sz,0,none⟩ ⟨ab,0,none⟩ _ _ (by rw [cell_of_row _ _ _ _ _ _ g1]; rfl) (by rw [cell_of_row _ _ _ _ _ _ g2]; rfl) (by rw [cell_of_row _ _ _ _ _ _ g3]; rfl) hr5 HA.out).mono ?_
   rintro e u' w9 ⟨rfl,rfl,f9,h9⟩
   have h10 := back _ _ f9 h9
   have c9 : w9.cell? ⟨sz + 1 + 1,0,none⟩ = some (.int .i64 4) := by rw [cell_of_row _ _ _ _ _ _ (h10.row (List.mem_cons_self ..))]; rfl
   have ho : (o.bind fun q => if q.1 <= most then some q else none) = none := by
    have hg := HG.out
    cases o with
    | none => rfl
    | some q => (obtain ⟨e1,_⟩ := hg trivial; rw [Option.bind_some,if_neg (by omega)])
   rw [ho]
   obtain ⟨x', e1,e2⟩ := h10.end_
   have HE := Lib.hid (And.intro e1 e2)
   clear e1 e2 h10 f9 h9 back hr5 H5
   simp [Leaves,settle,results,Tryz.results46,go_sem,c9]
   exact ⟨rfl,x', HE.out⟩
 ·have ce : w3.cell? ⟨sz + 1 + 1,0,none⟩ = some (.int .i64 0) := by rw [cell_of_row _ _ _ _ _ _ (h3.row (List.mem_cons_self ..))]; rfl
  have cf : ∀ j,w3.frozen? ⟨sz + 1 + 1,j,none⟩ = false := fun j => frozen_of_row w3 _ j _ _ (h3.row (List.mem_cons_self ..))
  clear c1 c2 h3
  have h5 := FAULT.out _ H3.out
  have H5 := Lib.hid h5
  clear h5
  go_wp2_with fail
  have h5 := H5.out
  obtain ⟨x5,hr5,back⟩ := h5.gone HDT.out
  have g1 := h5.row (List.mem_cons_self ..)
  have g2 := h5.row (List.mem_cons_of_mem _ HM1.out)
  have g3 := h5.row (List.mem_cons_of_mem _ HM2.out)
  refine leaves_cons (f := 73) (args := #[.pointer (some ⟨sz + 1 + 1,0,none⟩),.pointer (some ⟨sz,0,none⟩),.pointer (some ⟨ab,0,none⟩)]) (by simp) (by simp [go_sem]) ?_
  refine (back_yes x5 d s rb a1 a ⟨sz + 1 + 1,0,none⟩ ⟨sz,0,none⟩ ⟨ab,0,none⟩ _ _ (by rw [cell_of_row _ _ _ _ _ _ g1]; rfl) (by rw [cell_of_row _ _ _ _ _ _ g2]; rfl) (by rw [cell_of_row _ _ _ _ _ _ g3]; rfl) hr5 HA.out).mono ?_
  rintro e u' w9 ⟨rfl,rfl,f9,h9⟩
  have h10 := back _ _ f9 h9
  have c9 : w9.cell? ⟨sz + 1 + 1,0,none⟩ = some (.int .i64 4) := by rw [cell_of_row _ _ _ _ _ _ (h10.row (List.mem_cons_self ..))]; rfl
  have ho : (o.bind fun q => if q.1 <= most then some q else none) = none := by
   have hg := HG.out
   cases o with
   | none => rfl
   | some q => simp at hg
  rw [ho]
  obtain ⟨x', e1,e2⟩ := h10.end_
  have HE := Lib.hid (And.intro e1 e2)
  clear e1 e2 h10 f9 h9 back hr5 H5
  simp [Leaves,settle,results,Tryz.results46,go_sem,c9]
  exact ⟨rfl,x', HE.out⟩
end Go.Proofs.YtflnpcgnenhogaaGreatDoor.ls
