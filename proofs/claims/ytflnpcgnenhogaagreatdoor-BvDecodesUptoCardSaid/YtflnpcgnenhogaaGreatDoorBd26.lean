/- Own lemmas, laid together. -/
import Derived.Test.YtflnpcgnenhogaaGreatDoorBd24
import Derived.Lib.Zigzag
namespace Go.Proofs.YtflnpcgnenhogaaGreatDoor.ls
open Go.RowKit Go.Proofs.YtflnpcgnenhogaaGreatDoor.own Go.Proofs.YtflnpcgnenhogaaGreatDoor.bit

/-! ### two lists at once -/
def meetF (s : List Nat × (List Nat × Nat)) (v : Nat) (own other : Bool) : List Nat × (List Nat × Nat) := if other then (s.1, rst s.2 own) else (s.1 ++ [v], s.2)
def eachF : List Nat → List Nat → List Nat × (List Nat × Nat) → List Nat × (List Nat × Nat)
 | [],[],s => s
 | a :: r,[],s => eachF r [] (meetF s a true false)
 | [],b :: t,s => eachF [] t (meetF s b false true)
 | a :: r,b :: t,s => if a < b then eachF r (b :: t) (meetF s a true false) else if b < a then eachF (a :: r) t (meetF s b false true) else eachF r t (meetF s a true true)
termination_by a b => a.length + b.length
theorem isIn_no {l : List Nat} {v : Nat} (h : v ∉ l) : isIn l v = false := by unfold isIn; exact decide_eq_false h
theorem isIn_cons {a : Nat} {r : List Nat} {v : Nat} (h : v ≠ a) : isIn (a :: r) v = isIn r v := by unfold isIn; exact decide_eq_decide.2 ⟨fun h1 => by rcases List.mem_cons.1 h1 with h2 | h2; exact absurd h2 h; exact h2, fun h1 => List.mem_cons_of_mem _ h1⟩
theorem foldl_same {f g : Nat → Bool} : ∀ (l : List Nat) (q : List Nat × Nat), (∀ v ∈ l, f v = g v) → l.foldl (fun q v => rst q (f v)) q = l.foldl (fun q v => rst q (g v)) q
 | [],_,_ => rfl
 | v :: l,q,h => by
  simp only [List.foldl_cons]
  rw [h v (List.mem_cons_self ..),foldl_same l _ (fun u hu => h u (List.mem_cons_of_mem _ hu))]
theorem leftOf_nil (a : List Nat) : leftOf a [] = a := by
 unfold leftOf
 rw [List.filter_eq_self]
 intro v _
 simp [isIn]
theorem leftOf_cons (a : Nat) (r b : List Nat) : leftOf (a :: r) b = if isIn b a then leftOf r b else a :: leftOf r b := by
 unfold leftOf
 rw [List.filter_cons]
 cases isIn b a <;> rfl
theorem filter_same {f g : Nat → Bool} {l : List Nat} (h : ∀ v ∈ l, f v = g v) : l.filter f = l.filter g := List.filter_congr h
theorem eachF_eq (a b : List Nat) (s : List Nat × (List Nat × Nat)) (ha : a.Pairwise (· < ·)) (hb : b.Pairwise (· < ·)) : eachF a b s = (s.1 ++ leftOf a b, b.foldl (fun q v => rst q (isIn a v)) s.2) := by
 induction hn : a.length + b.length using Nat.strongRecOn generalizing a b s with
 | ind n ih =>
  match a,b,ha,hb,hn with
  | [],[],_,_,_ => rw [eachF]; simp [leftOf]
  | a :: r,[],ha,hb,hn =>
   obtain ⟨p1,p2⟩ := List.pairwise_cons.1 ha
   rw [eachF,ih (r.length + ([] : List Nat).length) (by simp at hn ⊢; omega) r [] _ p2 hb rfl,leftOf_nil,leftOf_nil]
   simp [meetF]
  | [],b :: t,ha,hb,hn =>
   obtain ⟨p1,p2⟩ := List.pairwise_cons.1 hb
   rw [eachF,ih (([] : List Nat).length + t.length) (by simp at hn ⊢; omega) [] t _ ha p2 rfl]
   simp only [meetF,if_true,List.foldl_cons]
   rw [isIn_no (by simp : b ∉ ([] : List Nat))]
   rfl
  | a :: r,b :: t,ha,hb,hn =>
   obtain ⟨p1,p2⟩ := List.pairwise_cons.1 ha
   obtain ⟨p3,p4⟩ := List.pairwise_cons.1 hb
   simp only [List.length_cons] at hn
   rw [eachF]
   by_cases h1 : a < b
   ·rw [if_pos h1,ih (r.length + (b :: t).length) (by simp; omega) r (b :: t) _ p2 hb rfl]
    have e1 : isIn (b :: t) a = false := isIn_no (fun h => by
     rcases List.mem_cons.1 h with h | h
     ·omega
     ·have := p3 a h; omega)
    rw [leftOf_cons a r,e1]
    have e2 : (b :: t).foldl (fun q v => rst q (isIn r v)) s.2 = (b :: t).foldl (fun q v => rst q (isIn (a :: r) v)) s.2 := foldl_same _ _ (fun v hv => by
     refine (isIn_cons ?_).symm
     rcases List.mem_cons.1 hv with h | h
     ·omega
     ·have := p3 v h; omega)
    simp only [meetF,Bool.false_eq_true,if_false]
    rw [e2,List.append_assoc]
    rfl
   ·rw [if_neg h1]
    by_cases h2 : b < a
    ·rw [if_pos h2,ih ((a :: r).length + t.length) (by simp; omega) (a :: r) t _ ha p4 rfl]
     have e1 : isIn (a :: r) b = false := isIn_no (fun h => by
      rcases List.mem_cons.1 h with h | h
      ·omega
      ·have := p1 b h; omega)
     have e2 : leftOf (a :: r) (b :: t) = leftOf (a :: r) t := filter_same (fun v hv => by
      rw [isIn_cons]
      rcases List.mem_cons.1 hv with h | h
      ·omega
      ·have := p1 v h; omega)
     simp only [meetF,if_true,List.foldl_cons]
     rw [e1,e2]
    ·obtain rfl : a = b := by omega
     rw [if_neg h2,ih (r.length + t.length) (by omega) r t _ p2 p4 rfl]
     have e1 : isIn (a :: r) a = true := isIn_mem.2 (List.mem_cons_self ..)
     have e2 : leftOf (a :: r) (a :: t) = leftOf r t := by
      rw [leftOf_cons,isIn_mem.2 (List.mem_cons_self ..),if_pos rfl]
      exact filter_same (fun v hv => by
       rw [isIn_cons]
       have := p1 v hv; omega)
     have e3 : t.foldl (fun q v => rst q (isIn r v)) (rst s.2 true) = t.foldl (fun q v => rst q (isIn (a :: r) v)) (rst s.2 true) := foldl_same _ _ (fun v hv => by
      refine (isIn_cons ?_).symm
      have := p3 v hv; omega)
     simp only [meetF,if_true,List.foldl_cons]
     rw [e1,e2,e3]
theorem eachF_runs {succ ref : List Nat} (h1 : Ris succ) (h2 : Ris ref) : eachF succ ref ([], ([], 0)) = (leftOf succ ref, runs succ ref) := by
 rw [eachF_eq _ _ _ h1.1 h2.1]
 rfl

/-! ### Zig -/
theorem zig_bits (z : Int) (h1 : -4611686018427387904 ≤ z) (h2 : z ≤ 4611686018427387903) : bits .xor .u64 (IntKind.u64.wrap (IntKind.u64.wrap z * 2)) (IntKind.u64.wrap (z / 9223372036854775808)) = ((zig z : Nat) : Int) := by
 unfold zig
 by_cases h0 : 0 <= z
 ·rw [if_pos h0]
  have e1 : IntKind.u64.wrap (IntKind.u64.wrap z * 2) = (((2 * z).toNat : Nat) : Int) := by rw [IntKind.wrap_u64,IntKind.wrap_u64]; omega
  have e2 : IntKind.u64.wrap (z / 9223372036854775808) = ((0 : Nat) : Int) := by rw [IntKind.wrap_u64]; omega
  rw [e1,e2,bits_xor_u64_nat _ _ (by omega) (by decide),Nat.xor_zero]
 ·rw [if_neg h0]
  obtain ⟨n,hn⟩ : ∃ n : Nat,z = -((n : Int) + 1) := ⟨(-(z + 1)).toNat,by omega⟩
  subst hn
  have e1 : IntKind.u64.wrap (IntKind.u64.wrap (-((n : Int) + 1)) * 2) = ((2 ^ 64 - 1 - (2 * n + 1) : Nat) : Int) := by rw [IntKind.wrap_u64,IntKind.wrap_u64,show (2 : Nat) ^ 64 = 18446744073709551616 from rfl]; omega
  have e2 : IntKind.u64.wrap (-((n : Int) + 1) / 9223372036854775808) = ((2 ^ 64 - 1 : Nat) : Int) := by rw [IntKind.wrap_u64,show (2 : Nat) ^ 64 = 18446744073709551616 from rfl]; omega
  have h64 : (2 : Nat) ^ 64 = 18446744073709551616 := rfl
  rw [e1,e2,bits_xor_u64_nat _ _ (by omega) (by omega),Nat.xor_comm,Lib.xor_ones64 _ (by omega)]
  omega
theorem Zig_any (z : Int) (h1 : -4611686018427387904 ≤ z) (h2 : z ≤ 4611686018427387903) (w : World) : Calls Tryz.prog 123 #[.int .i64 z] w fun e w' => e = .returned (.int .u64 ((zig z : Nat) : Int)) ∧ w = w' := by
 have ZB := Lib.hid (zig_bits z h1 h2)
 clear h1 h2
 have zb := ZB.out
 go_enter Tryz.func123,Tryz.ntmps123
 go_wp2_with fail
 go_ret
 exact ⟨rfl,rfl⟩
theorem Tryz.infoNumber : (Tryz.prog.info? 175).map (fun i => (i.zero, i.size, i.bytes)) = some (some (.agg #[.int .u8 0, .int .u64 0, .int .u64 0]), 3, 24) := by kernel_rfl
theorem Tryz.infoInt : (Tryz.prog.info? 3).map (fun i => (i.zero, i.size, i.bytes)) = some (some (.int .i64 0), 1, 8) := by kernel_rfl
def cdC : Cd → List Value
 | .una => [.int .u8 0,.int .u64 0]
 | .gam => [.int .u8 1,.int .u64 0]
 | .zet k => [.int .u8 3,.int .u64 (k : Int)]
def nmC (q : Cd × Nat) : List Value := cdC q.1 ++ [.int .u64 (q.2 : Int)]
def nmV (l : List (Cd × Nat)) : List Value := l.flatMap nmC
theorem nmV_append (a b : List (Cd × Nat)) : nmV (a ++ b) = nmV a ++ nmV b := List.flatMap_append ..
theorem cdC_shape (c : Cd) : ∃ kd kk, cdC c = [.int .u8 kd, .int .u64 kk] ∧ cdV c = .agg #[.int .u8 kd, .int .u64 kk] := by cases c <;> exact ⟨_, _, rfl, rfl⟩

def VR (x : Nat → Nat) (c : Nat) (e T : TypeId) (size : Nat) (w : World) (vb n : Nat) (xs : List Value) : Prop :=
 ∃ v,w.heap[vb]? = some (.cells #[v] T (0,0)) /\ x vb = c /\ w.ownsRow 0 e size v n xs /\ ∀ g,v.ownBlock = some g -> x g = c /\ g ≠ vb
theorem VR.frame {x x' : Nat → Nat} {C : Nat → Prop} {c : Nat} {e T : TypeId} {size : Nat} {w w' : World} {vb n : Nat} {xs : List Value} (h : VR x c e T size w vb n xs) (hf : Fr x x' C w w') (hC : ¬ C c) : VR x' c e T size w' vb n xs := by
 obtain ⟨v,h0,hx,ho,hg⟩ := h
 have hlt := lt_of_block h0
 refine ⟨v,(hf.old vb hlt (by rw [hx]; exact hC)).trans h0,by rw [hf.col vb hlt]; exact hx,⟨ho.1,?_⟩,fun g e => ?_⟩
 ·rcases ho.2 with h2 | ⟨g,cap,cur,hv,hb,hcell,r⟩
  ·exact .inl h2
  ·have he : v.ownBlock = some g := by rw [hv]; rfl
   exact .inr ⟨g,cap,cur,hv,hb,(hf.old g (lt_of_block hcell) (by rw [(hg g he).1]; exact hC)).trans hcell,r⟩
 ·have := ho.lt g e
  exact ⟨by rw [hf.col g this.2]; exact (hg g e).1,(hg g e).2⟩
theorem VR.grown {x : Nat → Nat} {c : Nat} {w w1 w2 : World} {vb n' : Nat} {vw v2 : Value} {ys : List Value} {T e : TypeId} {size : Nat} (g0 : w.heap[vb]? = some (.cells #[vw] T (0, 0))) (gx : x vb = c)
  (gg : ∀ g,vw.ownBlock = some g -> x g = c /\ g ≠ vb) (hb1 : Below w.heap.size w w1) (hown : w2.ownsRow 0 e size v2 n' ys) (hg : w1.grownBy w2 vw.ownBlock) (hw : v2.ownBlock = vw.ownBlock \/ v2.ownBlock = some w1.heap.size) :
  w2.heap[vb]? = some (.cells #[vw] T (0,0)) /\ ∃ x2,Fr x x2 (fun e => e = c) w (w2.setCell ⟨vb,0,none⟩ v2) /\ VR x2 c e T size (w2.setCell ⟨vb,0,none⟩ v2) vb n' ys := by
 have hlt := lt_of_block g0
 have k0 : Keeps w w1 (fun b => vw.ownBlock = some b) := ⟨hb1.os,hb1.tape,hb1.output,hb1.size,fun b hb _ => hb1.block b hb⟩
 have kp : Keeps w w2 (fun b => vw.ownBlock = some b) := k0.grown hg (fun k hk => .inl hk)
 have kq : Keeps w (w2.setCell ⟨vb,0,none⟩ v2) (fun b => vw.ownBlock = some b \/ b = vb) :=
  Keeps.setCell (S := fun b => vw.ownBlock = some b \/ b = vb) ⟨kp.os,kp.tape,kp.output,kp.size,fun b hb hS => kp.block b hb (fun h => hS (.inl h))⟩ (.inl (.inr rfl)) v2
 have hwb : w2.heap[vb]? = some (.cells #[vw] T (0,0)) := (kp.block vb hlt (fun h => (gg vb h).2 rfl)).trans g0
 have hz := hb1.size
 have hne : ∀ g,v2.ownBlock = some g -> g ≠ vb := fun g hg2 => by
  rcases hw with e | e
  ·exact (gg g (e ▸ hg2)).2
  ·rw [e] at hg2; injection hg2 with hg2; omega
 refine ⟨hwb,paint x w.heap.size c,kq.fr rfl (fun b _ hS => ?_),v2,?_,by rw [paint_old hlt]; exact gx,⟨hown.1,?_⟩,fun g hg2 => ⟨?_,hne g hg2⟩⟩
 ·rcases hS with h | h
  ·exact (gg b h).1
  ·rw [h]; exact gx
 ·rw [heap_setCell_same w2 vb 0 _ _ _ hwb]
  rfl
 ·rcases hown.2 with h2 | ⟨g,cap,cur,hv,hb,hcell,r⟩
  ·exact .inl h2
  ·exact .inr ⟨g,cap,cur,hv,hb,(Below.heap_setCell w2 _ _ g (hne g (by rw [hv]; rfl))).trans hcell,r⟩
 ·rcases hw with e | e
  ·have h2 := e ▸ hg2
   have h3 := gg g h2
   by_cases hgl : g < w.heap.size
   ·rw [paint_old hgl]; exact h3.1
   ·rw [paint_new (by omega)]
  ·rw [e] at hg2; injection hg2 with hg2
   rw [paint_new (by omega)]

set_option maxRecDepth 100000 in
set_option maxHeartbeats 1600000 in
theorem put_any (x : Nat → Nat) (c : Nat) (w : World) (lb : Nat) (l : List (Cd × Nat)) (k : Cd) (v : Nat) (hv : v < 9223372036854775808) (hl : l.length ≤ 1000000000) (h : VR x c 175 172 3 w lb l.length (nmV l)) :
  Calls Tryz.prog 119 #[cdV k,.int .i64 (v : Int),.pointer (some ⟨lb,0,none⟩)] w fun e w' => e = .returned (.tuple #[]) /\ ∃ x', Fr x x' (fun e => e = c) w w' /\ VR x' c 175 172 3 w' lb (l.length + 1) (nmV (l ++ [(k,v)])) := by
 obtain ⟨i0,hi,hz0,hz1,hz2⟩ := info_parts Tryz.infoNumber
 obtain ⟨vw,g0,gx,go,gg⟩ := h
 obtain ⟨kd,kk,hcc,hcv⟩ := cdC_shape k
 have NM : Hid (nmV [(k,v)] = [.int .u8 kd,.int .u64 kk,.int .u64 (v : Int)]) := Lib.hid (by show nmC (k,v) ++ [] = _; unfold nmC; rw [hcc]; rfl)
 rw [hcv]
 have G0 := Lib.hid g0
 have GG := Lib.hid (And.intro gx gg)
 have c0 : w.cell? ⟨lb,0,none⟩ = some vw := by rw [cell_of_row w lb _ _ _ _ g0]; rfl
 obtain ⟨s1,d1,hvw⟩ := own_shape go
 have hlb := lt_of_block g0
 have GO := Lib.hid go
 clear g0 gx go gg hcc hcv
 go_enter Tryz.func119,Tryz.ntmps119
 go_upto_region 1 with fail
 have r1 := heap_alloc_new w (.cells #[.int .u8 kd,.int .u64 kk] 101)
 have kb : Below w.heap.size w (w.alloc (.cells #[.int .u8 kd,.int .u64 kk] 101)) := (by repeat (first | exact Below.refl _ _ | refine below_drewN ?_ _ | refine Below.setCell ?_ (by simp; try omega) _ | refine Below.alloc ?_ (by simp; try omega) _))
 have d0 : (w.alloc (.cells #[.int .u8 kd,.int .u64 kk] 101)).cell? ⟨lb,0,none⟩ = some vw := (kb.cell (by exact hlb)).trans c0
 have d1' : (w.alloc (.cells #[.int .u8 kd,.int .u64 kk] 101)).cell? ⟨w.heap.size,0,none⟩ = some (.int .u8 kd) := by rw [cell_of_row _ _ _ _ _ _ r1]; rfl
 have d2' : (w.alloc (.cells #[.int .u8 kd,.int .u64 kk] 101)).cell? ⟨w.heap.size,1,none⟩ = some (.int .u64 kk) := by rw [cell_of_row _ _ _ _ _ _ r1]; rfl
 have KB := Lib.hid kb
 have OW := Lib.hid (own_below GO.out kb)
 generalize w.alloc (.cells #[.int .u8 kd,.int .u64 kk] 101) = w1 at d0 d1' d2' KB OW ⊢
 clear c0 kb r1
 have C1 : Hid (∀ j u,([Value.int .u8 kd,.int .u64 kk,.int .u64 (v : Int)] : List Value)[j]? = some u -> (w1.alloc (.cells #[.int .u8 kd,.int .u64 kk,.int .u64 (v : Int)] 175)).cell? ((⟨w1.heap.size,0,none⟩ : Addr).add j) = some u) := Lib.hid (fun j u hu => by
  rw [Addr.add_lit,cell_of_row _ _ _ _ _ _ (heap_alloc_new _ _),Nat.zero_add]; simpa using hu)
 have C2 : Hid (∀ u ∈ ([Value.int .u8 kd,.int .u64 kk,.int .u64 (v : Int)] : List Value),u.oneCell' = true) := Lib.hid (fun u hu => by simp at hu; rcases hu with rfl | rfl | rfl <;> rfl)
 have C3 : Hid (l.length + 1 <= maxLen) := Lib.hid (by simp only [maxLen]; omega)
 have C4 : Hid ((l.length + 1) * 24 <= 140737488355328) := Lib.hid (by omega)
 have OW2 := Lib.hid (OW.out.alloc (.cells #[.int .u8 kd,.int .u64 kk,.int .u64 (v : Int)] 175))
 subst hvw
 go_wp2_with (at_builtin; refine wpList_append_at _ rfl _ _ 172 rfl 0 175 i0 _ 3 24 Tryz.underlying172 hi hz0 hz1 hz2 rfl (by decide) _ l.length _ rfl OW2.out ⟨w1.heap.size,0,none⟩ 1 1 [.int .u8 kd,.int .u64 kk,.int .u64 (v : Int)] rfl rfl C1.out C2.out C3.out C4.out (Nat.zero_le _) (by decide) ?_)
 intro v2 w2 hown hg hw
 rw [<- NM.out,<- nmV_append] at hown
 obtain ⟨r2,R⟩ := VR.grown (T := 172) G0.out GG.out.1 GG.out.2 (KB.out.alloc KB.out.size _) hown hg (by simpa using hw)
 have R := Lib.hid R
 have c2 : w2.cell? ⟨lb,0,none⟩ = some (.slice s1 l.length d1) := by rw [cell_of_row w2 lb _ _ _ _ r2]; rfl
 have f2 : ∀ j,w2.frozen? ⟨lb,j,none⟩ = false := fun j => frozen_of_row w2 lb j _ _ r2
 clear r2
 obtain ⟨a2,k2,rfl⟩ := own_shape hown
 clear hown hg hw
 go_wp2_with fail
 go_end0
 exact ⟨rfl,R.out⟩
end Go.Proofs.YtflnpcgnenhogaaGreatDoor.ls
