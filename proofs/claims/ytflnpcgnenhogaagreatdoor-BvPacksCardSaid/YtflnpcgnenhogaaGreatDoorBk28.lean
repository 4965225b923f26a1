/- Own lemmas, laid together. -/
import Derived.Test.YtflnpcgnenhogaaGreatDoorBk27
import Derived.Test.YtflnpcgnenhogaaGreatDoorBk22
import Derived.Test.YtflnpcgnenhogaaGreatDoorBk24
import Derived.Test.YtflnpcgnenhogaaGreatDoorBk25
import Derived.Test.YtflnpcgnenhogaaGreatDoorBk26
import Derived.Test.YtflnpcgnenhogaaGreatDoorBk15
import Derived.Test.YtflnpcgnenhogaaGreatDoorBk13
import Derived.Test.YtflnpcgnenhogaaGreatDoorBk14
namespace Go.Proofs.YtflnpcgnenhogaaGreatDoor.ls
open Go.RowKit Go.Proofs.YtflnpcgnenhogaaGreatDoor.own Go.Proofs.YtflnpcgnenhogaaGreatDoor.bit

/-- a row of new bits, laid behind the bits so far -/
theorem LO.put {w0 W W2 W3 : World} {ks : List (Nat × Obj)} {out bs : Bits} {v v3 : Value} (h : LO w0 ks out v W) (k2 : Below W.heap.size W W2) (own3 : W3.ownsRow w0.heap.size 4 1 v3 (out.length + bs.length) (bls out ++ bls bs)) (hg : W2.grownBy W3 v.ownBlock) (hw : v3.ownBlock = v.ownBlock ∨ v3.ownBlock = some W2.heap.size) : LO w0 ks (out ++ bs) v3 W3 :=
 LO.grow (LG.next h k2) bs _ rfl own3 hg hw
theorem LO.own {w0 W W2 : World} {ks : List (Nat × Obj)} {out : Bits} {v : Value} (h : LO w0 ks out v W) (k2 : Below W.heap.size W W2) : W2.ownsRow w0.heap.size 4 1 v out.length (bls out) := (LG.next h k2).2.1
theorem LO.first {w0 W W2 : World} {ks : List (Nat × Obj)} {bs : Bits} {v v2 : Value} (h : LO w0 ks [] v W) (o2 : W2.ownsRow W.heap.size 4 1 v2 bs.length (bls bs)) (k2 : Below W.heap.size W W2) : LO w0 ks bs v2 W2 :=
 ⟨h.1.trans (k2.mono h.1.size), own_base o2 h.1.size, fun p hp => ⟨(k2.block _ (lt_of_block (h.2.2 p hp).1)).trans (h.2.2 p hp).1, fun e => absurd (o2.lt _ e.symm).1 (Nat.not_le_of_gt (lt_of_block (h.2.2 p hp).1))⟩⟩
/-- a row that a callee made stands beside, still -/
theorem LO.beside {w0 W W2 : World} {ks : List (Nat × Obj)} {out : Bits} {v vR : Value} {T : TypeId} {sz n : Nat} {xs : List Value} (h : LO w0 ks out v W) (k2 : Below W.heap.size W W2) (hR : W2.ownsRow W.heap.size T sz vR n xs) (hn : 0 < n) :
  ∃ g cap cur, vR = .slice (some ⟨g, 0, none⟩) n cap ∧ n ≤ cap ∧ LO w0 ((g, .cells cur T (0, 0)) :: ks) out v W2 ∧ ∀ W' : World, W'.heap[g]? = some (.cells cur T (0, 0)) → ∀ j u, xs[j]? = some u → W'.cell? ⟨g, j, none⟩ = some u := by
 obtain ⟨a0, cap0, e0, hcap⟩ := own_slice hR
 rcases hR.2 with ⟨_, h0⟩ | ⟨g, cap, cur, rfl, hb, hgg, _, _, _, htake⟩
 ·omega
 ·injection e0 with e1 e2 e3
  refine ⟨g, cap, cur, rfl, by rw [e3]; exact hcap, LG.with (LG.next h k2) hgg (fun e => ?_), fun W' hW j u hu => ?_⟩
  ·have := (h.2.1.lt _ e.symm).2
   omega
  ·rw [cell_of_row W' g j cur T (0, 0) hW]
   rw [← htake, List.getElem?_take] at hu
   split at hu
   ·simpa using hu
   ·cases hu
/-- the same of a row that may be empty: what stands beside grows, and reads it -/
theorem LO.besides {w0 W W2 : World} {ks : List (Nat × Obj)} {out : Bits} {v : Value} {a : Option Addr} {d : Nat} {T : TypeId} {sz n : Nat} {xs : List Value} (h : LO w0 ks out v W2) (hR : W2.ownsRow W.heap.size T sz (.slice a n d) n xs) (hne : ∀ g, a = some ⟨g, 0, none⟩ → some g ≠ v.ownBlock) :
  ∃ ks', (∀ p ∈ ks, p ∈ ks') ∧ LO w0 ks' out v W2 ∧ ∀ W' : World, (∀ p ∈ ks', W'.heap[p.1]? = some p.2) → ∀ j u, xs[j]? = some u → ∃ g, a = some ⟨g, 0, none⟩ ∧ W'.cell? ⟨g, j, none⟩ = some u := by
 rcases hR.2 with ⟨e0, h0⟩ | ⟨g, cap, cur, e0, hb, hgg, _, _, _, htake⟩
 ·refine ⟨ks, fun p hp => hp, h, fun W' _ j u hu => ?_⟩
  have hx := hR.1
  rw [h0, Nat.zero_mul] at hx
  rw [List.eq_nil_of_length_eq_zero hx] at hu
  cases hu
 ·injection e0 with e1 e2 e3
  subst e1
  refine ⟨_, fun p hp => List.mem_cons_of_mem _ hp, LG.with h hgg (hne g rfl), fun W' hW j u hu => ⟨g, rfl, ?_⟩⟩
  rw [cell_of_row W' g j cur T (0, 0) (hW _ (List.mem_cons_self ..))]
  rw [← htake, List.getElem?_take] at hu
  split at hu
  ·simpa using hu
  ·cases hu
theorem LO.low {w0 W : World} {ks : List (Nat × Obj)} {out : Bits} {v : Value} (h : LO w0 ks out v W) : Below w0.heap.size w0 W := h.1
theorem rnm_get : ∀ (k : Nat) (I : List Nat) (i : Nat) (h : i < I.length), (rnm k I)[i]? = some (I[i] - min (k + i) 1)
 | _, [], _, h => absurd h (Nat.not_lt_zero _)
 | k, n :: I, 0, _ => by unfold rnm; simp
 | k, n :: I, i + 1, h => by
  unfold rnm
  rw [List.getElem?_cons_succ, rnm_get (k + 1) I i (by simpa using h), List.getElem_cons_succ, show k + 1 + i = k + (i + 1) by omega]
theorem piV_get : ∀ (L : List (Nat × Nat)) (i : Nat) (h : i < L.length), (piV L)[i * 2]? = some (.int .u32 (L[i].1 : Int)) ∧ (piV L)[i * 2 + 1]? = some (.int .i64 (L[i].2 : Int))
 | q :: L, 0, _ => ⟨rfl, rfl⟩
 | q :: L, i + 1, h => by
  have := piV_get L i (by simpa using h)
  have e : piV (q :: L) = .int .u32 (q.1 : Int) :: .int .i64 (q.2 : Int) :: piV L := rfl
  rw [e, show (i + 1) * 2 = i * 2 + 1 + 1 by omega, List.getElem?_cons_succ, List.getElem?_cons_succ, List.getElem?_cons_succ, List.getElem?_cons_succ]
  exact this
theorem lnm_take (x itv : Nat) : ∀ (k : Nat) (e : Option Nat) (l : List (Nat × Nat)), lnm x itv e (l.take k) = (lnm x itv e l).take (2 * k)
 | 0, e, l => by rw [List.take_zero, Nat.mul_zero, List.take_zero]; cases e <;> rfl
 | k + 1, e, [] => by rw [List.take_nil, show lnm x itv e [] = [] by cases e <;> rfl, List.take_nil]
 | k + 1, e, (f, n) :: l => by rw [List.take_succ_cons, lnm_cons, lnm_cons, lnm_take x itv k, show 2 * (k + 1) = 2 * k + 1 + 1 by omega, List.take_succ_cons, List.take_succ_cons]
theorem znm_take (x : Nat) : ∀ (k : Nat) (e : Option Nat) (l : List Nat), znm x e (l.take k) = (znm x e l).take k
 | 0, e, l => by rw [List.take_zero, List.take_zero]; cases e <;> rfl
 | k + 1, none, [] => rfl
 | k + 1, some _, [] => rfl
 | k + 1, none, a :: l => by rw [List.take_succ_cons]; show _ :: znm x (some a) (l.take k) = (_ :: znm x (some a) l).take (k + 1); rw [znm_take x k, List.take_succ_cons]
 | k + 1, some _, a :: l => by rw [List.take_succ_cons]; show _ :: znm x (some a) (l.take k) = (_ :: znm x (some a) l).take (k + 1); rw [znm_take x k, List.take_succ_cons]
theorem gap_wrap (f g n v : Nat) (h1 : f < 65536) (h2 : g + n ≤ 65536) (h3 : f - (g + n - 1) - 2 = v) (h4 : g + n - 1 + 2 ≤ f ∧ 0 < n) : IntKind.i64.wrap (IntKind.i64.wrap (IntKind.i64.wrap (IntKind.i64.wrap (IntKind.i64.wrap (f : Int) - IntKind.i64.wrap (g : Int)) - (n : Int)) + 1) - 2) = (v : Int) := by
 obtain ⟨h4, h5⟩ := h4
 rw [i64_nat f (by omega), i64_nat g (by omega), i64_diff f g (by omega) (by omega), IntWalk.i64_in ((f : Int) - (g : Int) - (n : Int)) (by omega), IntWalk.i64_in ((f : Int) - (g : Int) - (n : Int) + 1) (by omega), IntWalk.i64_in _ (by omega)]
 omega
theorem rest_wrap (v u z : Nat) (h1 : v < 65536) (h2 : u < v) (h3 : v - u - 1 = z) : IntKind.u64.wrap (IntKind.u32.wrap (IntKind.u32.wrap ((v : Int) - (u : Int)) - 1)) = (z : Int) := by
 have e1 : IntKind.u32.wrap ((v : Int) - (u : Int)) = (v : Int) - (u : Int) := by rw [IntKind.wrap_u32]; omega
 have e2 : IntKind.u32.wrap ((v : Int) - (u : Int) - 1) = (z : Int) := by rw [IntKind.wrap_u32]; omega
 rw [e1, e2, IntWalk.u64_in _ (by omega)]
theorem LO.post {w0 W : World} {ks : List (Nat × Obj)} {out : Bits} {v : Value} (h : LO w0 ks out v W) : RowPost out w0 (.returned v) W := ⟨v, rfl, h.2.1, h.1⟩

/-- the bits so far, and the row of what is left growing beside -/
def LT (w0 : World) (ks : List (Nat × Obj)) (out : Bits) (v : Value) (L : List Nat) (u : Value) (W : World) : Prop :=
 LO w0 ks out v W ∧ W.ownsRow w0.heap.size 77 1 u L.length (u32V L) ∧ (∀ g, v.ownBlock = some g → u.ownBlock ≠ some g) ∧ ∀ p ∈ ks, some p.1 ≠ u.ownBlock
theorem LT.add1 {w0 W W2 : World} {ks : List (Nat × Obj)} {out : Bits} {v : Value} {L : List Nat} {u u' : Value} (h : LT w0 ks out v L u W) (x : Nat) (o : Obj) (own : W2.ownsRow w0.heap.size 77 1 u' (L.length + 1) (u32V L ++ [.int .u32 (x : Int)])) (hg : (W.alloc o).grownBy W2 u.ownBlock) (hw : u'.ownBlock = u.ownBlock ∨ u'.ownBlock = some (W.heap.size + 1)) : LT w0 ks out v (L ++ [x]) u' W2 := by
 obtain ⟨⟨h1, h2, h3⟩, h4, h5, h6⟩ := h
 have hs : (W.alloc o).heap.size = W.heap.size + 1 := by simp
 refine ⟨⟨(h1.alloc h1.size o).grown hg (by have := h1.size; omega) (fun k hk => (h4.lt k hk).1), (h2.alloc o).kept hg ?_, fun p hp => ?_⟩, ?_, fun g hgv => ?_, fun p hp => ?_⟩
 ·cases hv : v.ownBlock with
  | none => exact .inl rfl
  | some g => exact .inr (fun e => h5 g hv e.symm)
 ·have hlt := lt_of_block (h3 p hp).1
  exact ⟨(hg.block _ (by omega) (h6 p hp)).trans ((heap_alloc_old W o hlt).trans (h3 p hp).1), (h3 p hp).2⟩
 ·rw [List.length_append, u32V_append]; exact own
 ·rcases hw with e | e
  ·rw [e]; exact h5 g hgv
  ·rw [e]
   intro e2
   injection e2 with e2
   have := (h2.lt g hgv).2
   omega
 ·rcases hw with e | e
  ·rw [e]; exact h6 p hp
  ·rw [e]
   intro e2
   injection e2 with e2
   have := lt_of_block (h3 p hp).1
   omega
set_option maxRecDepth 100000 in
set_option maxHeartbeats 6400000 in
theorem dlaid_any (p : Pr) (x : Nat) (w : World) (a : Option Addr) (succ : List Nat) (cap : Nat) (b : Option Addr) (ref : List Nat) (capb r : Nat) (hc : succ.length ≤ cap) (_hcb : ref.length ≤ capb) (hm : MayN x succ ref r p) (hA : LV w a succ) (hB : LV w b ref) :
  Calls Tryz.prog 55 #[.int .i64 (x : Int), .slice a succ.length cap, .slice b ref.length capb, .int .i64 (r : Int), parV (p.win : Int) (p.itv : Int) (p.zet : Int)] w (RowPost (lay x succ ref r p) w) := by
 obtain ⟨i0, hi, hz0, hz1, hz2⟩ := info_parts Tryz.infoBool
 have LL := Lib.hid (lay_len hm)
 have MN := Lib.hid hm
 have GA := Lib.hid (fun v h W => gamma_any v h W)
 obtain ⟨⟨m1, m2, m3, m4⟩, m5, m6, m7, m8, m9⟩ := hm
 have hlen := m6.len
 have LY : Hid (lay x succ ref r p = cb .gam succ.length ++ bitsOf (if succ = [] then [] else (if 0 < p.win then [(.una, r)] else [])) ++ bitsOf (tlN x succ ref r p)) := Lib.hid (by unfold lay nums hdN; rw [bitsOf_append, bitsOf_cons])
 have H := Lib.hid (And.intro hA hB)
 unfold parV
 clear hA hB
 go_enter Tryz.func55, Tryz.ntmps55
 go_upto_region 1 with fail
 have H0 : LO w [(w.heap.size, .cells #[.int .i64 (p.win : Int), .int .i64 (p.itv : Int), .int .i64 (p.zet : Int)] 36 (0, 0))] [] (.slice none 0 0) (w.alloc (.cells #[.int .i64 (p.win : Int), .int .i64 (p.itv : Int), .int .i64 (p.zet : Int)] 36)) := LG.keep (ks := []) ⟨Below.refl _ _, World.ownsRow_nil _ _ _ _, fun _ h => by cases h⟩ _ _
 obtain ⟨W1, hW1⟩ : ∃ W, World.alloc w (.cells #[.int .i64 (p.win : Int), .int .i64 (p.itv : Int), .int .i64 (p.zet : Int)] 36) = W := ⟨_, rfl⟩
 rw [hW1] at H0
 rw [hW1]
 have H0 := Lib.hid H0
 obtain ⟨N, hN⟩ : ∃ N, succ.length = N := ⟨_, rfl⟩
 have HN := Lib.hid hN
 have hN9 : N ≤ 65536 := by omega
 rw [hN] at hc ⊢
 go_wp2_with fail
 with_reducible refine (GA.out N (by omega) _).mono ?_
 rintro e W2 ⟨v2, rfl, o2, k2⟩
 have H1 := Lib.hid (LO.first H0.out o2 k2)
 have K1 : Hid (Below w.heap.size w W2) := Lib.hid H1.out.1
 obtain ⟨s2, d2, rfl⟩ := own_shape o2
 generalize (cb Cd.gam N).length = l1 at H1 ⊢
 clear o2 k2 H0
 by_cases hs : succ = []
 ·have hN0 : N = 0 := by rw [← hN, hs]; rfl
  have E : Hid (lay x succ ref r p = cb .gam N) := Lib.hid (by rw [LY.out, HN.out, if_pos hs]; unfold tlN; rw [if_pos hs]; simp [bitsOf_nil])
  clear hN hs LY
  subst hN0
  go_wp2_with fail
  go_ret
  rw [E.out]
  exact H1.out.post
 ·have hN0 : ¬ (N : Int) = 0 := by
   intro h
   exact hs (List.eq_nil_of_length_eq_zero (by omega))
  have LY2 : Hid (lay x succ ref r p = cb .gam N ++ (if 0 < p.win then cb .una r else []) ++ bitsOf (runN succ ref r) ++ bitsOf (restN x (leftOf succ ref) p)) := Lib.hid (by
   rw [LY.out, HN.out, if_neg hs]; unfold tlN; rw [if_neg hs, bitsOf_append]
   split <;> simp [bitsOf_nil, bitsOf_cons, List.append_assoc])
  clear LY
  have HS := Lib.hid hs
  clear hs
  have hNb : ((N : Int) == 0) = false := beq_eq_false_iff_ne.2 hN0
  obtain ⟨wn, hwn⟩ : ∃ n, p.win = n := ⟨_, rfl⟩
  obtain ⟨iv, hiv⟩ : ∃ n, p.itv = n := ⟨_, rfl⟩
  obtain ⟨zt, hzt⟩ : ∃ n, p.zet = n := ⟨_, rfl⟩
  rw [hwn] at m1 m8 LY2
  rw [hiv] at m2
  rw [hzt] at m3 m4
  rw [hwn, hiv, hzt] at H1
  have c0 : W2.cell? ⟨w.heap.size, 0, none⟩ = some (.int .i64 (wn : Int)) := by rw [cell_of_row _ _ _ _ _ _ (H1.out.row (List.mem_singleton.2 rfl))]; rfl
  go_upto_if 30 with fail
  go_cut [11] from 28 to 36 (fun v11 wc => LO w [(w.heap.size, .cells #[.int .i64 (wn : Int), .int .i64 (iv : Int), .int .i64 (zt : Int)] 36 (0, 0))] (cb .gam N ++ (if 0 < wn then cb .una r else [])) v11 wc)
  case first =>
   by_cases hw0 : 0 < wn
   ·have i1 : decide ((0 : Int) < (wn : Int)) = true := decide_eq_true (by omega)
    have i1n : decide (0 < wn) = true := decide_eq_true hw0
    have f12 : IntKind.u64.wrap (r : Int) = (r : Int) := IntWalk.u64_in _ (by omega)
    have BU := Lib.hid (fun W => dbits_una r (by omega) W)
    have CL : (cb .gam N).length + (cb .una r).length ≤ 5243040 := by
     have := LL.out
     rw [LY2.out, if_pos hw0] at this
     simp only [List.length_append] at this
     omega
    have C3 : Hid ((cb .gam N).length + (cb .una r).length ≤ maxLen) := Lib.hid (by simp only [maxLen]; omega)
    have C4 : Hid (((cb .gam N).length + (cb .una r).length) * 1 ≤ 140737488355328) := Lib.hid (by omega)
    go_wp2_with fail
    with_reducible refine (BU.out _).mono ?_
    rintro e W3 ⟨v3, rfl, o3, k3⟩
    have pu := H1.out.own k3
    have ks := Nat.le_trans K1.out.size k3.size
    go_wp2_with (at_builtin; refine wpList_append_row _ rfl _ _ 26 rfl w.heap.size W2.heap.size 4 i0 _ 1 Tryz.underlying26 hi hz0 hz1 hz2 rfl _ _ _ rfl pu _ _ _ rfl o3 (bls_one _) C3.out C4.out ks ?_)
    intro v4 W4 own4 hg4 hw4
    have N1 := Lib.hid (H1.out.put k3 own4 hg4 hw4)
    clear own4 hg4 hw4 pu o3 k3
    go_wp2_with fail
    go_meet
    case rel => rw [if_pos hw0]; exact N1.out
   ·have i1 : decide ((0 : Int) < (wn : Int)) = false := decide_eq_false (by omega)
    have i1n : decide (0 < wn) = false := decide_eq_false hw0
    go_wp2_with fail
    go_meet
    case rel => rw [if_neg hw0, List.append_nil]; exact H1.out
  case rest =>
   have HCT := Lib.hid hcut
   obtain ⟨O1, hO1⟩ : ∃ O, cb .gam N ++ (if 0 < wn then cb .una r else []) = O := ⟨_, rfl⟩
   rw [hO1] at HCT LY2
   clear hcut hO1 H1 c0 K1
   go_upto_if 38 with fail
   go_cut [11, 12, 13] from 37 to 70 (fun v11 _ _ wc => LO w [(w.heap.size, .cells #[.int .i64 (wn : Int), .int .i64 (iv : Int), .int .i64 (zt : Int)] 36 (0, 0))] (O1 ++ bitsOf (runN succ ref r)) v11 wc)
   case first =>
    by_cases hr0 : 0 < r
    ·have i1 : decide ((0 : Int) < (r : Int)) = true := decide_eq_true (by omega)
     have i1n : decide (0 < r) = true := decide_eq_true hr0
     have AB := Lib.hid (fun W (k : Below w.heap.size w W) => druns_any W a succ cap b ref capb (H.out.1.below k) (H.out.2.below k) m6 m7)
     have RN : Hid (bitsOf (runN succ ref r) = cb .gam (runs succ ref).1.length ++ bitsOf ((rnm 0 (runs succ ref).1).map (fun v => (Cd.gam, v)))) := Lib.hid (by unfold runN; rw [if_pos hr0, bitsOf_cons])
     have NK : ∀ q ∈ (Cd.gam, (runs succ ref).1.length) :: (rnm 0 (runs succ ref).1).map (fun v => (Cd.gam, v)), q.2 < 262144 := fun q hq => ((nums_ok MN.out).1 q (by
      unfold nums tlN runN
      rw [if_neg HS.out, if_pos hr0]
      exact List.mem_append_right _ (List.mem_append_left _ hq))).2.1
     have RO := (runs_ok succ ref).pos
     obtain ⟨⟨I, z⟩, hQ⟩ : ∃ Q, runs succ ref = Q := ⟨_, rfl⟩
     have RO : ∀ i (h : i < I.length), 0 < i → 0 < I[i] := by rw [hQ] at RO; exact RO
     rw [hQ] at AB RN NK
     rw [HN.out] at AB
     dsimp only at AB RN NK
     obtain ⟨n, hn⟩ : ∃ n, I.length = n := ⟨_, rfl⟩
     have hn9 : n < 262144 := by rw [← hn]; exact NK _ (List.mem_cons_self ..)
     have RL : Hid (∀ i (h : i < n), (rnm 0 I)[i]? = some ((I[i]'(by omega)) - min i 1) ∧ (I[i]'(by omega)) - min i 1 < 262144 ∧ (0 < i → 0 < I[i]'(by omega))) := Lib.hid (fun i h => by
      have e := rnm_get 0 I i (by omega)
      rw [Nat.zero_add] at e
      exact ⟨e, NK (Cd.gam, _) (List.mem_cons_of_mem _ (List.mem_map.2 ⟨_, List.mem_of_getElem? e, rfl⟩)), fun h0 => RO i (by omega) h0⟩)
     have RV : Hid (∀ i (h : i < n), (runV (I, z))[i]? = some (.int .i64 ((I[i]'(by omega) : Nat) : Int))) := Lib.hid (fun i h => by
      unfold runV intV
      dsimp only
      rw [List.map_append, List.getElem?_append_left (by rw [List.length_map]; omega), List.getElem?_map, List.getElem?_eq_getElem (by omega)]
      rfl)
     have LB : Hid (((rnm 0 I).map (fun v => (Cd.gam, v))).length = n) := Lib.hid (by rw [List.length_map, rnm_length]; exact hn)
     have CL : O1.length + (cb .gam n).length + (bitsOf ((rnm 0 I).map (fun v => (Cd.gam, v)))).length ≤ 5243040 := by
      have := LL.out
      rw [LY2.out, RN.out, hn] at this
      simp only [List.length_append] at this
      omega
     rw [hn] at AB RN
     clear NK RO hQ
     go_wp2_with fail
     with_reducible refine (AB.out _ HCT.out.low).mono ?_
     rintro e W3 ⟨vR, rfl, oR, k3⟩
     obtain ⟨g, capR, cur, rfl, hcR, h3, hcell⟩ := HCT.out.beside k3 oR (Nat.succ_pos _)
     have HCL := Lib.hid hcell
     have H3 := Lib.hid h3
     obtain ⟨s3, d3, rfl⟩ := own_shape h3.2.1
     have wn1 : wrap64 (((n + 1 : Nat) : Int) - 1) = (n : Int) := by rw [IntWalk.wrap64_in _ (by omega)]; omega
     clear k3 oR h3 hcell
     go_wp2_with fail
     with_reducible refine (GA.out n (by omega) _).mono ?_
     rintro e W4 ⟨v4, rfl, o4, k4⟩
     have C3 : Hid (O1.length + (cb .gam n).length ≤ maxLen) := Lib.hid (by simp only [maxLen]; omega)
     have C4 : Hid ((O1.length + (cb .gam n).length) * 1 ≤ 140737488355328) := Lib.hid (by omega)
     have pu := H3.out.own k4
     have ks := Nat.le_trans H3.out.low.size k4.size
     go_wp2_with (at_builtin; refine wpList_append_row _ rfl _ _ 26 rfl w.heap.size W3.heap.size 4 i0 _ 1 Tryz.underlying26 hi hz0 hz1 hz2 rfl _ _ _ rfl pu _ _ _ rfl o4 (bls_one _) C3.out C4.out ks ?_)
     intro v5 W5 own5 hg5 hw5
     have N1 := Lib.hid (H3.out.put k4 own5 hg5 hw5)
     clear own5 hg5 hw5 pu o4 k4 ks
     obtain ⟨B, hB⟩ : ∃ B, (rnm 0 I).map (fun v => (Cd.gam, v)) = B := ⟨_, rfl⟩
     rw [hB] at RN LB
     obtain ⟨O2, hO2⟩ : ∃ O, O1 ++ cb .gam n = O := ⟨_, rfl⟩
     rw [hO2] at N1
     have HB2 := Lib.hid (And.intro hB hO2)
     have CL2 : Hid (O2.length + (bitsOf B).length ≤ 5243040) := Lib.hid (by rw [← hO2, ← hB, List.length_append]; exact CL)
     clear hB hO2 CL
     go_wp2_with fail
     go_loopw [11, 13] (fun v11 v13 wr => ∃ i : Nat, i ≤ n ∧ v13 = .int .i64 (i : Int) ∧ LO w [(g, .cells cur 3 (0, 0)), (w.heap.size, .cells #[.int .i64 (wn : Int), .int .i64 (iv : Int), .int .i64 (zt : Int)] 36 (0, 0))] (O2 ++ bitsOf (B.take i)) v11 wr)
      (fun _ v13 _ => n - (intOf v13).toNat)
     case atStart => exact ⟨0, Nat.zero_le _, rfl, by rw [List.take_zero, bitsOf_nil, List.append_nil]; exact N1.out⟩
     case round =>
      obtain ⟨i, hin, rfl, hW⟩ := hrel
      rename World => wr
      obtain ⟨s5, d5, rfl⟩ := own_shape hW.2.1
      have HW := Lib.hid hW
      clear hW
      by_cases hilt : i < n
      ·have ci := HCL.out wr (HW.out.row (List.mem_cons_self ..)) i _ (RV.out i hilt)
       obtain ⟨e1, e2, e3⟩ := RL.out i hilt
       obtain ⟨q, hq⟩ : ∃ q, I[i]'(by omega) = q := ⟨_, rfl⟩
       rw [hq] at ci e1 e2 e3
       obtain ⟨m, hm⟩ : ∃ m, q - min i 1 = m := ⟨_, rfl⟩
       rw [hm] at e1 e2
       have BT : bitsOf (B.take (i + 1)) = bitsOf (B.take i) ++ cb .gam m := by
        have hb : i < B.length := by rw [LB.out]; exact hilt
        have e4 : B[i] = (Cd.gam, m) := by
         have : B[i]? = some (Cd.gam, m) := by rw [← HB2.out.1, List.getElem?_map, e1]; rfl
         rw [List.getElem?_eq_getElem hb] at this
         exact Option.some.inj this
        rw [bitsOf_take B i hb, e4]
       obtain ⟨O3, hO3⟩ : ∃ O, O2 ++ bitsOf (B.take i) = O := ⟨_, rfl⟩
       rw [hO3] at HW ⊢
       have CL3 : O3.length + (cb .gam m).length ≤ 5243040 := by
        have h1 := bits_take_le B (i + 1)
        rw [BT, List.length_append] at h1
        have h2 := CL2.out
        rw [← hO3, List.length_append]
        omega
       have C3 : Hid (O3.length + (cb .gam m).length ≤ maxLen) := Lib.hid (by simp only [maxLen]; omega)
       have C4 : Hid ((O3.length + (cb .gam m).length) * 1 ≤ 140737488355328) := Lib.hid (by omega)
       have RS : Hid (O2 ++ bitsOf (B.take (i + 1)) = O3 ++ cb .gam m) := Lib.hid (by rw [BT, ← hO3, List.append_assoc])
       clear e1 BT CL3 hO3 hq
       by_cases h0 : i = 0
       ·subst h0
        have hmq : q = m := by omega
        subst hmq
        go_wp2_with fail
        with_reducible refine (GA.out q (by omega) _).mono ?_
        rintro e W6 ⟨v6, rfl, o6, k6⟩
        have pu := HW.out.own k6
        have ks := Nat.le_trans HW.out.low.size k6.size
        go_wp2_with (at_builtin; refine wpList_append_row _ rfl _ _ 26 rfl w.heap.size wr.heap.size 4 i0 _ 1 Tryz.underlying26 hi hz0 hz1 hz2 rfl _ _ _ rfl pu _ _ _ rfl o6 (bls_one _) C3.out C4.out ks ?_)
        intro v7 W7 own7 hg7 hw7
        have N2 := Lib.hid (HW.out.put k6 own7 hg7 hw7)
        clear own7 hg7 hw7 pu o6 k6 ks
        go_wp2_with fail
        go_roundw
        case rel => exact ⟨0 + 1, hilt, by go_num, by rw [RS.out]; exact N2.out⟩
        case measure => simp [intOf]; try omega
       ·have hmq : (q : Int) - 1 = (m : Int) := by have := e3 (by omega); omega
        have hib : ((i : Int) == 0) = false := beq_eq_false_iff_ne.2 (by omega)
        clear hm e3
        go_wp2_with fail
        with_reducible refine (GA.out m (by omega) _).mono ?_
        rintro e W6 ⟨v6, rfl, o6, k6⟩
        have pu := HW.out.own k6
        have ks := Nat.le_trans HW.out.low.size k6.size
        go_wp2_with (at_builtin; refine wpList_append_row _ rfl _ _ 26 rfl w.heap.size wr.heap.size 4 i0 _ 1 Tryz.underlying26 hi hz0 hz1 hz2 rfl _ _ _ rfl pu _ _ _ rfl o6 (bls_one _) C3.out C4.out ks ?_)
        intro v7 W7 own7 hg7 hw7
        have N2 := Lib.hid (HW.out.put k6 own7 hg7 hw7)
        clear own7 hg7 hw7 pu o6 k6 ks
        go_wp2_with fail
        go_roundw
        case rel => exact ⟨i + 1, hilt, by go_num, by rw [RS.out]; exact N2.out⟩
        case measure => simp [intOf]; try omega
      ·have hie : i = n := by omega
       subst hie
       have i5 : decide ((i : Int) + 1 < ((i + 1 : Nat) : Int)) = false := decide_eq_false (by omega)
       have FIN : Hid (O1 ++ bitsOf (runN succ ref r) = O2 ++ bitsOf (B.take i)) := Lib.hid (by
        rw [RN.out, List.take_of_length_le (by rw [LB.out]; exact Nat.le_refl _), ← HB2.out.2, List.append_assoc])
       go_wp2_with fail
       go_meet
       case rel => rw [FIN.out]; exact LG.sub HW.out (fun p hp => List.mem_cons_of_mem _ hp)
     all_goals skip
    ·have i1 : decide ((0 : Int) < (r : Int)) = false := decide_eq_false (by omega)
     have i1n : decide (0 < r) = false := decide_eq_false hr0
     go_wp2_with fail
     go_meet
     case rel => unfold runN; rw [if_neg hr0, bitsOf_nil, List.append_nil]; exact HCT.out
   case rest =>
    have HCT2 := Lib.hid hcut
    obtain ⟨O5, hO5⟩ : ∃ O, O1 ++ bitsOf (runN succ ref r) = O := ⟨_, rfl⟩
    rw [hO5] at HCT2 LY2
    clear hcut hO5 HCT
    obtain ⟨j0, hj, hj0, hj1, hj2⟩ := info_parts Tryz.infoU32
    have IN := Lib.hid (fun W (k : Below w.heap.size w W) v => in_any W b ref capb v (H.out.2.below k) m7.1)
    have LT0 : Hid (LT w [(w.heap.size, .cells #[.int .i64 (wn : Int), .int .i64 (iv : Int), .int .i64 (zt : Int)] 36 (0, 0))] O5 u11 [] (.slice none 0 0) wc) := Lib.hid ⟨HCT2.out, World.ownsRow_nil _ _ _ _, (fun g hg e => nomatch e), (fun p hp e => nomatch e)⟩
    clear HCT2
    go_wp2_with fail
    go_loopw [14, 15] (fun v14 v15 wr => ∃ i : Nat, i ≤ N ∧ v15 = .int .i64 (i : Int) ∧ LT w [(w.heap.size, .cells #[.int .i64 (wn : Int), .int .i64 (iv : Int), .int .i64 (zt : Int)] 36 (0, 0))] O5 u11 (leftOf (succ.take i) ref) v14 wr)
     (fun _ v15 _ => N - (intOf v15).toNat)
    case atStart => exact ⟨0, Nat.zero_le _, rfl, by rw [List.take_zero]; exact LT0.out⟩
    case round =>
     obtain ⟨i, hin, rfl, hT⟩ := hrel
     rename World => wr
     have HT := Lib.hid hT
     obtain ⟨s6, d6, rfl⟩ := own_shape hT.2.1
     clear hT
     by_cases hlt : i < N
     ·have i0' : decide ((i : Int) < (N : Int)) = true := decide_eq_true (by omega)
      have hil : i < succ.length := by rw [HN.out]; exact hlt
      obtain ⟨a0, ha0⟩ : ∃ x, succ[i] = x := ⟨_, rfl⟩
      obtain ⟨g, o, rfl⟩ := H.out.1.addr (by omega)
      have c0 : wr.cell? ⟨g, o + i, none⟩ = some (.int .u32 (a0 : Int)) := by
       obtain ⟨g', o', e, h3, _⟩ := (H.out.1.below HT.out.1.low).cellAt i hil
       injection e with e
       injection e with e1 e2
       subst e1 e2
       rw [h3, ha0]
      obtain ⟨bb, hbb⟩ : ∃ q, isIn ref a0 = q := ⟨_, rfl⟩
      have LS : Hid (leftOf (succ.take (i + 1)) ref = leftOf (succ.take i) ref ++ (if bb then [] else [a0])) := Lib.hid (by
       unfold leftOf
       rw [List.take_succ_eq_append_getElem hil, List.filter_append, ha0]
       congr 1
       rw [List.filter_cons, hbb]
       cases bb <;> rfl)
      have hLn : (leftOf (succ.take i) ref).length ≤ 65536 := Nat.le_trans (List.length_filter_le _ _) (by rw [List.length_take]; omega)
      obtain ⟨L, hL⟩ : ∃ L, leftOf (succ.take i) ref = L := ⟨_, rfl⟩
      rw [hL] at HT LS hLn ⊢
      have IN2 := Lib.hid (IN.out wr HT.out.1.low a0)
      rw [hbb] at IN2
      clear hL hbb ha0
      go_wp2_with fail
      with_reducible refine IN2.out.mono ?_
      rintro e w6 ⟨rfl, rfl⟩
      cases bb with
      | true =>
       go_wp2_with fail
       go_roundw
       case rel => exact ⟨i + 1, hlt, by go_num, by rw [LS.out]; simpa using HT.out⟩
       case measure => simp [intOf]; try omega
      | false =>
       have C3 : Hid (L.length + 1 ≤ maxLen) := Lib.hid (by simp only [maxLen]; omega)
       have C4 : Hid ((L.length + 1) * 4 ≤ 140737488355328) := Lib.hid (by omega)
       have C5 : Hid (w.heap.size ≤ wr.heap.size) := Lib.hid HT.out.1.low.size
       have ho := HT.out.2.1
       have C5' : Hid (w.heap.size ≤ (wr.alloc (.cells #[.int .u32 (a0 : Int)] 77)).heap.size) := Lib.hid (by simp; exact Nat.le_succ_of_le C5.out)
       have OA := Lib.hid (ho.alloc (.cells #[.int .u32 (a0 : Int)] 77))
       go_wp2_with (at_builtin; refine wpList_append_at _ rfl _ _ 34 rfl w.heap.size 77 j0 _ 1 4 Tryz.underlying34 hj hj0 hj1 hj2 rfl (by decide) _ L.length _ rfl OA.out ⟨wr.heap.size, 0, none⟩ 1 1 [.int .u32 (a0 : Int)] rfl rfl (cell_one_new _ _ _) (u32_one [a0]) C3.out C4.out C5'.out (by decide) ?_)
       intro v7 w7 own7 hg7 hw7
       have T2 := Lib.hid (HT.out.add1 a0 _ own7 hg7 hw7)
       clear ho own7 hg7 hw7
       go_wp2_with fail
       go_roundw
       case rel => exact ⟨i + 1, hlt, by go_num, by rw [LS.out]; simpa using T2.out⟩
       case measure => simp [intOf]; try omega
     ·have i0' : decide ((i : Int) < (N : Int)) = false := decide_eq_false (by omega)
      have hie : leftOf (succ.take i) ref = leftOf succ ref := by rw [List.take_of_length_le (by rw [HN.out]; omega)]
      obtain ⟨L, hL⟩ : ∃ L, leftOf succ ref = L := ⟨_, rfl⟩
      rw [hie, hL] at HT ⊢
      rw [hL] at LY2
      have HLF := Lib.hid hL
      clear hie hL
      by_cases hL0 : L = []
      ·have E : Hid (lay x succ ref r p = O5) := Lib.hid (by rw [LY2.out]; unfold restN; rw [if_pos hL0, bitsOf_nil, List.append_nil])
       subst hL0
       have hT1 := HT.out.1
       obtain ⟨s7, d7, rfl⟩ := own_shape hT1.2.1
       go_wp2_with fail
       go_ret
       rw [E.out]
       exact hT1.post
      ·have hRL : Ris L := by
        rw [← HLF.out]
        exact ⟨m6.1.sublist (List.filter_sublist ..), fun v hv => m6.2 v ((List.mem_filter.1 hv).1)⟩
       have hLl := hRL.len
       have hln : ¬ (L.length : Int) = 0 := fun h => hL0 (List.eq_nil_of_length_eq_zero (by omega))
       have hlnb : ((L.length : Int) == 0) = false := beq_eq_false_iff_ne.2 hln
       obtain ⟨aL, cL, eL, hcL, hLV⟩ := lv_own (by omega) (fun u hu => Nat.lt_of_lt_of_le (hRL.2 u hu) (by decide)) HT.out.2.1
       injection eL with eL1 eL2 eL3
       subst eL1 eL3
       have c1 : wr.cell? ⟨w.heap.size, 1, none⟩ = some (.int .i64 (iv : Int)) := by rw [cell_of_row _ _ _ _ _ _ (HT.out.1.row (List.mem_singleton.2 rfl))]; rfl
       have IV := Lib.hid (intervals_any wr s6 L d6 iv hcL (by omega) hLV hRL)
       clear hLV
       go_wp2_with fail
       with_reducible refine IV.out.mono ?_
       rintro e w8 ⟨v1, v2, rfl, hI⟩
       have HI := Lib.hid hI
       obtain ⟨a8, d8, rfl⟩ := own_shape hI.2.1
       obtain ⟨a9, d9, rfl⟩ := own_shape hI.2.2.1
       have HN8 : Hid (LO w [(w.heap.size, .cells #[.int .i64 (wn : Int), .int .i64 (iv : Int), .int .i64 (zt : Int)] 36 (0, 0))] O5 u11 w8) := Lib.hid (LG.next HT.out.1 hI.1)
       clear hI c1
       have c1 : w8.cell? ⟨w.heap.size, 1, none⟩ = some (.int .i64 (iv : Int)) := by rw [cell_of_row _ _ _ _ _ _ (HN8.out.row (List.mem_singleton.2 rfl))]; rfl
       have HLO := Lib.hid HT.out.1
       obtain ⟨⟨rws1, rst1⟩, hRW⟩ : ∃ Q, rws iv L = Q := ⟨_, rfl⟩
       have HRW := Lib.hid hRW
       rw [hRW] at HI ⊢
       dsimp only at HI ⊢
       obtain ⟨ks1, hs1, h8a, HC1⟩ := LO.besides HN8.out HI.out.2.1 (fun g e he => by
        have e1 := (HLO.out.2.1.lt g he.symm).2
        have e2 := (HI.out.2.1.lt g (by rw [e]; rfl)).1
        omega)
       obtain ⟨ks2, hs2, h8b, HC2⟩ := LO.besides h8a HI.out.2.2.1 (fun g e he => by
        have e1 := (HLO.out.2.1.lt g he.symm).2
        have e2 := (HI.out.2.2.1.lt g (by rw [e]; rfl)).1
        omega)
       have PB := Lib.hid (hs2 _ (hs1 _ (List.mem_singleton.2 rfl)))
       have HC1 := Lib.hid (fun W' (h : ∀ p ∈ ks2, W'.heap[p.1]? = some p.2) => HC1 W' (fun p hp => h p (hs2 p hp)))
       have HC2 := Lib.hid HC2
       have H8 := Lib.hid h8b
       clear h8a h8b hs1 hs2 hRW HN8 HI HLO
       have RB : Hid (bitsOf (restN x L p) = (if 0 < iv then cb .gam rws1.length else []) ++ bitsOf ((lnm x iv none rws1).map (fun v => (Cd.gam, v))) ++ bitsOf ((znm x none rst1).map (fun v => (Cd.zet zt, v)))) := Lib.hid (by
        unfold restN
        rw [if_neg hL0, hiv, hzt, HRW.out, bitsOf_append, bitsOf_append]
        congr 2
        split <;> simp [bitsOf_cons, bitsOf_nil])
       have NKR : Hid (∀ q ∈ restN x L p, q.2 < 262144) := Lib.hid (fun q hq => ((nums_ok MN.out).1 q (by
        unfold nums tlN
        rw [if_neg HS.out, HLF.out]
        exact List.mem_append_right _ (List.mem_append_right _ hq))).2.1)
       have CL : O5.length + (bitsOf (restN x L p)).length ≤ 5243040 := by
        have := LL.out
        rw [LY2.out] at this
        simpa only [List.length_append] using this
       go_upto_if 104 with fail
       go_cut [11] from 102 to 109 (fun v11 wc => LO w ks2 (O5 ++ (if 0 < iv then cb .gam rws1.length else [])) v11 wc)
       case first =>
        by_cases hv0 : 0 < iv
        ·have i1 : decide ((0 : Int) < (iv : Int)) = true := decide_eq_true (by omega)
         have i1n : decide (0 < iv) = true := decide_eq_true hv0
         have hnr : rws1.length < 262144 := NKR.out (Cd.gam, rws1.length) (by
          unfold restN
          rw [if_neg hL0, hiv, HRW.out, if_pos hv0]
          exact List.mem_append_left _ (List.mem_append_left _ (List.mem_singleton.2 rfl)))
         rw [RB.out, if_pos hv0] at CL
         simp only [List.length_append] at CL
         have C3 : Hid (O5.length + (cb .gam rws1.length).length ≤ maxLen) := Lib.hid (by simp only [maxLen]; omega)
         have C4 : Hid ((O5.length + (cb .gam rws1.length).length) * 1 ≤ 140737488355328) := Lib.hid (by omega)
         obtain ⟨s9, d9, rfl⟩ := own_shape H8.out.2.1
         clear CL
         go_wp2_with fail
         with_reducible refine (GA.out rws1.length (by omega) _).mono ?_
         rintro e W4 ⟨v4, rfl, o4, k4⟩
         have pu := H8.out.own k4
         have ks := Nat.le_trans H8.out.low.size k4.size
         go_wp2_with (at_builtin; refine wpList_append_row _ rfl _ _ 26 rfl w.heap.size w8.heap.size 4 i0 _ 1 Tryz.underlying26 hi hz0 hz1 hz2 rfl _ _ _ rfl pu _ _ _ rfl o4 (bls_one _) C3.out C4.out ks ?_)
         intro v5 W5 own5 hg5 hw5
         have N1 := Lib.hid (H8.out.put k4 own5 hg5 hw5)
         clear own5 hg5 hw5 pu o4 k4 ks
         go_wp2_with fail
         go_meet
         case rel => rw [if_pos hv0]; exact N1.out
        ·have i1 : decide ((0 : Int) < (iv : Int)) = false := decide_eq_false (by omega)
         have i1n : decide (0 < iv) = false := decide_eq_false hv0
         go_wp2_with fail
         go_meet
         case rel => rw [if_neg hv0, List.append_nil]; exact H8.out
       case rest =>
        have HC5 := Lib.hid hcut
        obtain ⟨O6, hO6⟩ : ∃ O, O5 ++ (if 0 < iv then cb .gam rws1.length else []) = O := ⟨_, rfl⟩
        rw [hO6] at HC5
        have LY3 : Hid (lay x succ ref r p = O6 ++ bitsOf ((lnm x iv none rws1).map (fun v => (Cd.gam, v))) ++ bitsOf ((znm x none rst1).map (fun v => (Cd.zet zt, v)))) := Lib.hid (by rw [LY2.out, RB.out, ← hO6]; simp only [List.append_assoc])
        have AP := Lib.hid (show Apart iv none rws1 from by have h := (rws_ok iv L hRL).apart; rw [HRW.out] at h; exact h)
        obtain ⟨np, hnp⟩ : ∃ np, rws1.length = np := ⟨_, rfl⟩
        obtain ⟨nr, hnr⟩ : ∃ nr, rst1.length = nr := ⟨_, rfl⟩
        have NKL : Hid (∀ v ∈ lnm x iv none rws1, v < 262144) := Lib.hid (fun v hv => NKR.out (Cd.gam, v) (by
         unfold restN
         rw [if_neg hL0, hiv, HRW.out]
         exact List.mem_append_left _ (List.mem_append_right _ (List.mem_map.2 ⟨v, hv, rfl⟩))))
        have NKZ : Hid (∀ v ∈ znm x none rst1, v < 262144) := Lib.hid (fun v hv => NKR.out (Cd.zet zt, v) (by
         unfold restN
         rw [if_neg hL0, hiv, hzt, HRW.out]
         exact List.mem_append_right _ (List.mem_map.2 ⟨v, hv, rfl⟩)))
        have CLR : Hid (∀ k, (O6 ++ bitsOf ((lnm x iv none (rws1.take k)).map (fun v => (Cd.gam, v)))).length + (bitsOf ((znm x none rst1).map (fun v => (Cd.zet zt, v)))).length ≤ 5243040) := Lib.hid (fun k => by
         have h1 := LL.out
         rw [LY3.out] at h1
         have h2 := bits_take_le ((lnm x iv none rws1).map (fun v => (Cd.gam, v))) (2 * k)
         rw [← List.map_take, ← lnm_take] at h2
         simp only [List.length_append] at h1 ⊢
         omega)
        have hnp9 : np < 262144 := by
         by_cases h0 : 0 < iv
         ·rw [← hnp]; exact NKR.out (Cd.gam, rws1.length) (by
           unfold restN
           rw [if_neg hL0, hiv, HRW.out, if_pos h0]
           exact List.mem_append_left _ (List.mem_append_left _ (List.mem_singleton.2 rfl)))
         ·have h2 := apart_len _ _ AP.out
          have h1 := (rws_ok iv L hRL).perm.length_eq
          rw [List.length_append, sumLen, HRW.out] at h1
          dsimp only at h1
          omega
        have hnr9 : nr < 262144 := by
         have h1 := (rws_ok iv L hRL).sub.length_le
         rw [HRW.out] at h1
         dsimp only at h1
         omega
        have HNP := Lib.hid hnp
        have HNR := Lib.hid hnr
        rw [hnp, hnr]
        clear hcut hO6 H8 CL hnp hnr
        go_wp2_with fail
        go_loopw [11, 18] (fun v11 v18 wr => ∃ i : Nat, i ≤ np ∧ v18 = .int .i64 (i : Int) ∧ LO w ks2 (O6 ++ bitsOf ((lnm x iv none (rws1.take i)).map (fun v => (Cd.gam, v)))) v11 wr)
         (fun _ v18 _ => np - (intOf v18).toNat)
        case atStart => exact ⟨0, Nat.zero_le _, rfl, by rw [List.take_zero]; unfold lnm; rw [List.map_nil, bitsOf_nil, List.append_nil]; exact HC5.out⟩
        case round =>
         obtain ⟨i, hin, rfl, hT⟩ := hrel
         rename World => wr
         obtain ⟨s5, d5, rfl⟩ := own_shape hT.2.1
         have HT := Lib.hid hT
         clear hT
         by_cases hlt : i < np
         ·--A1
          have hip : i < rws1.length := by rw [HNP.out]; exact hlt
          obtain ⟨g, rfl, p0⟩ := HC1.out wr (fun p hp => (HT.out.2.2 p hp).1) (i * 2) _ (piV_get rws1 i hip).1
          obtain ⟨g', eg, p1⟩ := HC1.out wr (fun p hp => (HT.out.2.2 p hp).1) (i * 2 + 1) _ (piV_get rws1 i hip).2
          obtain rfl : g' = g := by injection eg with eg; injection eg with eg; exact eg.symm
          obtain ⟨b0, b1, b2, b3⟩ := Apart.get AP.out i hip
          obtain ⟨f, hf⟩ : ∃ f, rws1[i].1 = f := ⟨_, rfl⟩
          obtain ⟨n', hn'⟩ : ∃ n', rws1[i].2 = n' := ⟨_, rfl⟩
          rw [hf] at p0 b2 b3
          rw [hn'] at p1 b0 b1 b2
          have TK : Hid (rws1.take (i + 1) = rws1.take i ++ [(f, n')]) := Lib.hid (by rw [List.take_succ_eq_append_getElem hip, ← hf, ← hn'])
          have SN := Lib.hid (lnm_snoc x iv none (rws1.take i) f n')
          rw [← TK.out] at SN
          obtain ⟨v0, hv0⟩ : ∃ v0, frstN x (lend none (rws1.take i)) f = v0 := ⟨_, rfl⟩
          rw [hv0] at SN
          have V0 := Lib.hid hv0
          obtain ⟨O7, hO7⟩ : ∃ O, O6 ++ bitsOf ((lnm x iv none (rws1.take i)).map (fun v => (Cd.gam, v))) = O := ⟨_, rfl⟩
          rw [hO7] at HT ⊢
          have LS : Hid (O6 ++ bitsOf ((lnm x iv none (rws1.take (i + 1))).map (fun v => (Cd.gam, v))) = O7 ++ cb .gam v0 ++ cb .gam (n' - iv)) := Lib.hid (by
           rw [SN.out, List.map_append, bitsOf_append, ← List.append_assoc, hO7]
           simp [bitsOf_cons, bitsOf_nil])
          have CLi : O7.length + (cb .gam v0).length + (cb .gam (n' - iv)).length ≤ 5243040 := by
           have h1 := CLR.out (i + 1)
           have h2 := congrArg List.length LS.out
           simp only [List.length_append] at h1 h2
           omega
          have hv9 : v0 < 262144 := NKL.out v0 (by
           have h1 : v0 ∈ lnm x iv none (rws1.take (i + 1)) := by rw [SN.out]; exact List.mem_append_right _ (List.mem_cons_self ..)
           rw [lnm_take] at h1
           exact List.mem_of_mem_take h1)
          have HN2 := Lib.hid hn'
          clear hf hn' hO7 hv0 eg
          have C3 : Hid (O7.length + (cb .gam v0).length ≤ maxLen) := Lib.hid (by simp only [maxLen]; omega)
          have C4 : Hid ((O7.length + (cb .gam v0).length) * 1 ≤ 140737488355328) := Lib.hid (by omega)
          have B3 := Lib.hid b3
          clear b3
          go_upto_if 117 with fail
          go_cut [11] from 116 to 152 (fun v11 wc => LO w ks2 (O7 ++ cb .gam v0) v11 wc)
          case first =>
           by_cases h0 : i = 0
           ·subst h0
            have ZG := Lib.hid (fun W => dzig_any f x (by omega) m5 W)
            have V1 : Hid (zig ((f : Int) - (x : Int)) = v0) := Lib.hid (by rw [← V0.out, List.take_zero]; rfl)
            rw [V1.out] at ZG
            rw [Nat.zero_mul] at p0
            go_wp2_with fail
            with_reducible refine (ZG.out _).mono ?_
            rintro e w2 ⟨rfl, rfl⟩
            go_wp2_with fail
            with_reducible refine (GA.out v0 (by omega) _).mono ?_
            rintro e W6 ⟨v6, rfl, o6, k6⟩
            have pu := HT.out.own k6
            have ks := Nat.le_trans HT.out.low.size k6.size
            go_wp2_with (at_builtin; refine wpList_append_row _ rfl _ _ 26 rfl w.heap.size wr.heap.size 4 i0 _ 1 Tryz.underlying26 hi hz0 hz1 hz2 rfl _ _ _ rfl pu _ _ _ rfl o6 (bls_one _) C3.out C4.out ks ?_)
            intro v7 W7 own7 hg7 hw7
            have N2 := Lib.hid (HT.out.put k6 own7 hg7 hw7)
            clear own7 hg7 hw7 pu o6 k6 ks
            go_wp2_with fail
            go_meet
            case rel => exact N2.out
           ·obtain ⟨j, hj⟩ : ∃ j, j + 1 = i := ⟨i - 1, by omega⟩
            have hjp : j < rws1.length := by rw [HNP.out]; omega
            obtain ⟨g2, eg, q0⟩ := HC1.out wr (fun p hp => (HT.out.2.2 p hp).1) (j * 2) _ (piV_get rws1 j hjp).1
            obtain rfl : g' = g2 := by injection eg with eg; injection eg with eg
            obtain ⟨g2, eg, q1⟩ := HC1.out wr (fun p hp => (HT.out.2.2 p hp).1) (j * 2 + 1) _ (piV_get rws1 j hjp).2
            obtain rfl : g' = g2 := by injection eg with eg; injection eg with eg
            obtain ⟨c0, c1, c2, c3⟩ := Apart.get AP.out j hjp
            have LD : lend none (rws1.take i) = some (rws1[j].1 + rws1[j].2 - 1) := by
             rw [← hj, List.take_succ_eq_append_getElem hjp]
             exact lend_snoc _ _ _ _
            have b4 := B3.out _ LD
            have V1 := V0.out
            rw [LD] at V1
            change f - _ - 2 = v0 at V1
            obtain ⟨f2, hf2⟩ : ∃ f, rws1[j].1 = f := ⟨_, rfl⟩
            obtain ⟨n2, hn2⟩ : ∃ n, rws1[j].2 = n := ⟨_, rfl⟩
            rw [hf2] at q0 c2 b4 V1
            rw [hn2] at q1 c0 c1 c2 b4 V1
            have a1 : IntKind.i64.wrap ((i : Int) - 1) = (j : Int) := by rw [IntWalk.i64_in _ (by omega)]; omega
            have a2 : (j : Int) < (np : Int) := by omega
            have a3 : (0 : Int) ≤ (j : Int) := Int.natCast_nonneg _
            have hib : ((i : Int) == 0) = false := beq_eq_false_iff_ne.2 (by omega)
            clear hf2 hn2 LD eg
            go_upto_region 31 with fail
            have Z5 := Lib.hid (gap_wrap f f2 n2 v0 (by omega) (by omega) V1 ⟨b4, c1⟩)
            clear V1 b4 c0 c1 c2 c3 eg b0 b2
            have HTD : Hid (LO w ks2 O7 (.slice s5 O7.length d5) wr.drew) := Lib.hid (LG.drew HT.out)
            --R31
            go_region_law (first
             | (go_simp; go_at_call 89; rw [Z5.out]; (with_reducible refine (GA.out v0 (by omega) _).mono ?_); rintro e W6 ⟨v6, rfl, o6, k6⟩; have pu := HTD.out.own k6; have ks := Nat.le_trans HTD.out.low.size k6.size; dsimp only)
             | (refine wp_append_row _ (by rfl) (.tmp 127) (.tmp 151) 26 rfl w.heap.size wr.heap.size 4 i0 (.bool false) 1 Tryz.underlying26 hi hz0 hz1 hz2 rfl _ _ _ rfl pu _ _ _ rfl o6 (bls_one _) C3.out C4.out ks ?_; intro v7 W7 own7 hg7 hw7; have N2 := Lib.hid (HTD.out.put k6 own7 hg7 hw7); obtain ⟨a3, cap3, rfl⟩ := own_shape own7; clear own7 hg7 hw7))
            all_goals
             go_wp2_with fail
             go_meet
            all_goals exact N2.out
          case rest =>
           have HU := Lib.hid hcut
           rename World => wq
           obtain ⟨s9, d9', rfl⟩ := own_shape HU.out.2.1
           clear hcut HT p0 p1
           obtain ⟨g2, eg, p1⟩ := HC1.out wq (fun p hp => (HU.out.2.2 p hp).1) (i * 2 + 1) _ (piV_get rws1 i hip).2
           obtain rfl : g' = g2 := by injection eg with eg; injection eg with eg
           have q1 : wq.cell? ⟨w.heap.size, 1, none⟩ = some (.int .i64 (iv : Int)) := by rw [cell_of_row _ _ _ _ _ _ (HU.out.row PB.out)]; rfl
           obtain ⟨O8, hO8⟩ : ∃ O, O7 ++ cb .gam v0 = O := ⟨_, rfl⟩
           obtain ⟨d, hd⟩ : ∃ d, n' - iv = d := ⟨_, rfl⟩
           rw [HN2.out] at p1
           rw [hO8] at HU LS ⊢
           rw [hd] at LS CLi
           have CL8 : O8.length + (cb .gam d).length ≤ 5243040 := by rw [← hO8, List.length_append]; omega
           have C3 : Hid (O8.length + (cb .gam d).length ≤ maxLen) := Lib.hid (by simp only [maxLen]; omega)
           have C4 : Hid ((O8.length + (cb .gam d).length) * 1 ≤ 140737488355328) := Lib.hid (by omega)
           have Z6 : Hid (IntKind.i64.wrap ((n' : Int) - (iv : Int)) = (d : Int)) := Lib.hid (by rw [IntWalk.i64_in _ (by omega)]; omega)
           have d9 : d < 262144 := by omega
           clear hO8 hd CLi CL8 eg b0 b1 b2 hv9
           go_upto_region 32 with fail
           have HTD : Hid (LO w ks2 O8 (.slice s9 O8.length d9') wq.drew) := Lib.hid (LG.drew HU.out)
           --R32
           go_region_law (first
            | (go_simp; go_at_call 89; rw [Z6.out]; (with_reducible refine (GA.out d (by omega) _).mono ?_); rintro e W6 ⟨v6, rfl, o6, k6⟩; have pu := HTD.out.own k6; have ks := Nat.le_trans HTD.out.low.size k6.size; dsimp only)
            | (refine wp_append_row _ (by rfl) (.tmp 153) (.tmp 162) 26 rfl w.heap.size wq.heap.size 4 i0 (.bool false) 1 Tryz.underlying26 hi hz0 hz1 hz2 rfl _ _ _ rfl pu _ _ _ rfl o6 (bls_one _) C3.out C4.out ks ?_; intro v7 W7 own7 hg7 hw7; have N2 := Lib.hid (HTD.out.put k6 own7 hg7 hw7); obtain ⟨a3, cap3, rfl⟩ := own_shape own7; clear own7 hg7 hw7))
           all_goals
            go_wp2_with fail
            go_roundw
           all_goals first | exact ⟨i + 1, hlt, by go_num, by rw [LS.out]; exact N2.out⟩ | (simp [intOf]; omega)
         ·have hie : i = np := by omega
          subst hie
          have i5 : decide ((i : Int) < (i : Int)) = false := decide_eq_false (by omega)
          have TK : Hid (rws1.take i = rws1) := Lib.hid (List.take_of_length_le (by rw [HNP.out]; exact Nat.le_refl _))
          rw [TK.out] at HT
          obtain ⟨O7, hO7⟩ : ∃ O, O6 ++ bitsOf ((lnm x iv none rws1).map (fun v => (Cd.gam, v))) = O := ⟨_, rfl⟩
          rw [TK.out, hO7]
          rw [hO7] at HT LY3
          clear hO7
          have c2 : wr.cell? ⟨w.heap.size, 2, none⟩ = some (.int .i64 (zt : Int)) := by rw [cell_of_row _ _ _ _ _ _ (HT.out.row PB.out)]; rfl
          have zw : IntKind.u64.wrap (zt : Int) = (zt : Int) := IntWalk.u64_in _ (by omega)
          have HLr : Hid (Ris rst1) := Lib.hid (by
           have h1 := (rws_ok iv L hRL).sub
           rw [HRW.out] at h1
           exact ⟨hRL.1.sublist h1, fun v hv => hRL.2 v (h1.subset hv)⟩)
          go_upto_region 34 with fail
          have H9 : Hid (LO w ((wr.heap.size, .cells #[.int .u8 3, .int .u64 (zt : Int)] 104 (0, 0)) :: ks2) O7 (.slice s5 O7.length d5) (wr.alloc (.cells #[.int .u8 3, .int .u64 (zt : Int)] 104))) := Lib.hid (LG.keep HT.out _ _)
          generalize hzb : wr.heap.size = zb at H9 ⊢
          generalize World.alloc wr _ = W9 at H9 ⊢
          clear hzb c2 zw HT HC1
          obtain ⟨B, hB⟩ : ∃ B, znm x none rst1 = B := ⟨_, rfl⟩
          have ZT := Lib.hid (fun k => znm_take x k none rst1)
          have HB := Lib.hid hB
          have CLZ : Hid (∀ k, (O7 ++ bitsOf ((znm x none (rst1.take k)).map (fun v => (Cd.zet zt, v)))).length ≤ 5243040) := Lib.hid (fun k => by
           have h1 := LL.out
           rw [LY3.out, List.length_append] at h1
           have h2 := bits_take_le ((znm x none rst1).map (fun v => (Cd.zet zt, v))) k
           rw [← List.map_take, ← znm_take] at h2
           rw [List.length_append]
           omega)
          clear hB
          go_wp2_with fail
          go_loopw [11, 20] (fun v11 v20 wr => ∃ i : Nat, i ≤ nr ∧ v20 = .int .i64 (i : Int) ∧ LO w ((zb, .cells #[.int .u8 3, .int .u64 (zt : Int)] 104 (0, 0)) :: ks2) (O7 ++ bitsOf ((znm x none (rst1.take i)).map (fun v => (Cd.zet zt, v)))) v11 wr)
           (fun _ v20 _ => nr - (intOf v20).toNat)
          case atStart => exact ⟨0, Nat.zero_le _, rfl, by rw [List.take_zero]; unfold znm; rw [List.map_nil, bitsOf_nil, List.append_nil]; exact H9.out⟩
          case round =>
           obtain ⟨j, hjn, rfl, hU⟩ := hrel
           rename World => wq
           obtain ⟨s9, d9, rfl⟩ := own_shape hU.2.1
           have HU := Lib.hid hU
           clear hU H9
           by_cases hjt : j < nr
           ·have hjr : j < rst1.length := by rw [HNR.out]; exact hjt
            obtain ⟨g, rfl, p0⟩ := HC2.out wq (fun p hp => (HU.out.2.2 p (List.mem_cons_of_mem _ hp)).1) j (.int .u32 (rst1[j] : Int)) (by unfold u32V; rw [List.getElem?_map, List.getElem?_eq_getElem hjr]; rfl)
            obtain ⟨v, hv⟩ : ∃ v, rst1[j] = v := ⟨_, rfl⟩
            have hvb : v < 65536 := by rw [← hv]; exact HLr.out.2 _ (List.getElem_mem hjr)
            rw [hv] at p0
            have TK : Hid (rst1.take (j + 1) = rst1.take j ++ [v]) := Lib.hid (by rw [List.take_succ_eq_append_getElem hjr, hv])
            obtain ⟨v0, hv0⟩ : ∃ v0, resN x (rst1.take j).getLast? v = v0 := ⟨_, rfl⟩
            have SN : Hid (znm x none (rst1.take (j + 1)) = znm x none (rst1.take j) ++ [v0]) := Lib.hid (by rw [TK.out, znm_snoc, ← hv0]; cases (rst1.take j).getLast? <;> rfl)
            have V0 := Lib.hid hv0
            have hv9 : v0 < 262144 := NKZ.out v0 (by
             have h1 : v0 ∈ znm x none (rst1.take (j + 1)) := by rw [SN.out]; exact List.mem_append_right _ (List.mem_cons_self ..)
             rw [znm_take] at h1
             exact List.mem_of_mem_take h1)
            obtain ⟨O8, hO8⟩ : ∃ O, O7 ++ bitsOf ((znm x none (rst1.take j)).map (fun v => (Cd.zet zt, v))) = O := ⟨_, rfl⟩
            rw [hO8] at HU ⊢
            have LS : Hid (O7 ++ bitsOf ((znm x none (rst1.take (j + 1))).map (fun v => (Cd.zet zt, v))) = O8 ++ cb (.zet zt) v0) := Lib.hid (by
             rw [SN.out, List.map_append, bitsOf_append, ← List.append_assoc, hO8]
             simp [bitsOf_cons, bitsOf_nil])
            have CL8 : O8.length + (cb (.zet zt) v0).length ≤ 5243040 := by
             have h1 := CLZ.out (j + 1)
             rw [LS.out, List.length_append] at h1
             exact h1
            have C3 : Hid (O8.length + (cb (.zet zt) v0).length ≤ maxLen) := Lib.hid (by simp only [maxLen]; omega)
            have C4 : Hid ((O8.length + (cb (.zet zt) v0).length) * 1 ≤ 140737488355328) := Lib.hid (by omega)
            have BZ := Lib.hid (fun W => dbits_zet zt v0 (by omega) (by omega) (by omega) W)
            clear hv0 hO8 CL8
            by_cases h0 : j = 0
            ·subst h0
             have ZG := Lib.hid (fun W => dzig_any v x hvb m5 W)
             have V1 : Hid (zig ((v : Int) - (x : Int)) = v0) := Lib.hid (by rw [← V0.out, List.take_zero]; rfl)
             rw [V1.out] at ZG
             have Z7 : Hid (IntKind.u64.wrap (v0 : Int) = (v0 : Int)) := Lib.hid (IntWalk.u64_in _ (by omega))
             clear hv
             go_upto_region 38 with fail
             have HTD : Hid (LO w ((zb, .cells #[.int .u8 3, .int .u64 (zt : Int)] 104 (0, 0)) :: ks2) O8 (.slice s9 O8.length d9) wq.drew) := Lib.hid (LG.drew HU.out)
             have r9 := HTD.out.row (List.mem_cons_self ..)
             have c0 : wq.drew.cell? ⟨zb, 0, none⟩ = some (.int .u8 3) := by rw [cell_of_row _ _ _ _ _ _ r9]; rfl
             have c1 : wq.drew.cell? ⟨zb, 1, none⟩ = some (.int .u64 (zt : Int)) := by rw [cell_of_row _ _ _ _ _ _ r9]; rfl
             clear r9
             --R38
             go_region_law (first
              | (go_simp; go_at_call 94; (with_reducible refine (ZG.out _).mono ?_); rintro e W6 ⟨rfl, rfl⟩; dsimp only)
              | (go_simp; go_at_call 90; rw [Z7.out]; (with_reducible refine (BZ.out _).mono ?_); rintro e W6 ⟨v6, rfl, o6, k6⟩; have pu := HTD.out.own k6; have ks := Nat.le_trans HTD.out.low.size k6.size; dsimp only)
              | (refine wp_append_row _ (by rfl) (.tmp 176) (.tmp 184) 26 rfl w.heap.size wq.heap.size 4 i0 (.bool false) 1 Tryz.underlying26 hi hz0 hz1 hz2 rfl _ _ _ rfl pu _ _ _ rfl o6 (bls_one _) C3.out C4.out ks ?_; intro v7 W7 own7 hg7 hw7; have N2 := Lib.hid (HTD.out.put k6 own7 hg7 hw7); obtain ⟨a3, cap3, rfl⟩ := own_shape own7; clear own7 hg7 hw7))
             all_goals
              go_wp2_with fail
              go_roundw
             all_goals first | exact ⟨0 + 1, hjt, by go_num, by rw [LS.out]; exact N2.out⟩ | (simp [intOf]; omega)
            ·obtain ⟨q, hq⟩ : ∃ q, q + 1 = j := ⟨j - 1, by omega⟩
             have hqr : q < rst1.length := by rw [HNR.out]; omega
             obtain ⟨g2, eg, q0⟩ := HC2.out wq (fun p hp => (HU.out.2.2 p (List.mem_cons_of_mem _ hp)).1) q (.int .u32 (rst1[q] : Int)) (by unfold u32V; rw [List.getElem?_map, List.getElem?_eq_getElem hqr]; rfl)
             obtain rfl : g = g2 := by injection eg with eg; injection eg with eg
             have huv : rst1[q] < v := by
              have h2 := List.pairwise_iff_getElem.1 HLr.out.1 q j hqr hjr (by omega)
              omega
             have V1 := V0.out
             have LD : (rst1.take j).getLast? = some rst1[q] := by rw [← hq, List.take_succ_eq_append_getElem hqr, List.getLast?_concat]
             rw [LD] at V1
             change v - _ - 1 = v0 at V1
             obtain ⟨u, hu⟩ : ∃ u, rst1[q] = u := ⟨_, rfl⟩
             rw [hu] at q0 huv V1
             have a1 : IntKind.i64.wrap ((j : Int) - 1) = (q : Int) := by rw [IntWalk.i64_in _ (by omega)]; omega
             have a2 : (q : Int) < (nr : Int) := by omega
             have a3 : (0 : Int) ≤ (q : Int) := Int.natCast_nonneg _
             have hib : ((j : Int) == 0) = false := beq_eq_false_iff_ne.2 (by omega)
             have Z8 := Lib.hid (rest_wrap v u v0 hvb huv V1)
             clear hu LD V1 huv eg hv hvb
             go_upto_region 39 with fail
             have HTD : Hid (LO w ((zb, .cells #[.int .u8 3, .int .u64 (zt : Int)] 104 (0, 0)) :: ks2) O8 (.slice s9 O8.length d9) wq.drew) := Lib.hid (LG.drew HU.out)
             have r9 := HTD.out.row (List.mem_cons_self ..)
             have c0 : wq.drew.cell? ⟨zb, 0, none⟩ = some (.int .u8 3) := by rw [cell_of_row _ _ _ _ _ _ r9]; rfl
             have c1 : wq.drew.cell? ⟨zb, 1, none⟩ = some (.int .u64 (zt : Int)) := by rw [cell_of_row _ _ _ _ _ _ r9]; rfl
             clear r9
             --R39
             go_region_law (first
              | (go_simp; go_at_call 90; rw [Z8.out]; (with_reducible refine (BZ.out _).mono ?_); rintro e W6 ⟨v6, rfl, o6, k6⟩; have pu := HTD.out.own k6; have ks := Nat.le_trans HTD.out.low.size k6.size; dsimp only)
              | (refine wp_append_row _ (by rfl) (.tmp 186) (.tmp 200) 26 rfl w.heap.size wq.heap.size 4 i0 (.bool false) 1 Tryz.underlying26 hi hz0 hz1 hz2 rfl _ _ _ rfl pu _ _ _ rfl o6 (bls_one _) C3.out C4.out ks ?_; intro v7 W7 own7 hg7 hw7; have N2 := Lib.hid (HTD.out.put k6 own7 hg7 hw7); obtain ⟨a3, cap3, rfl⟩ := own_shape own7; clear own7 hg7 hw7))
             all_goals
              go_wp2_with fail
              go_roundw
             all_goals first | exact ⟨j + 1, hjt, by go_num, by rw [LS.out]; exact N2.out⟩ | (simp [intOf]; omega)
           ·have hje : j = nr := by omega
            subst hje
            have i5 : decide ((j : Int) < (j : Int)) = false := decide_eq_false (by omega)
            have TK : Hid (rst1.take j = rst1) := Lib.hid (List.take_of_length_le (by rw [HNR.out]; exact Nat.le_refl _))
            have FIN : Hid (lay x succ ref r p = O7 ++ bitsOf ((znm x none (rst1.take j)).map (fun v => (Cd.zet zt, v)))) := Lib.hid (by rw [TK.out, LY3.out])
            go_wp2_with fail
            go_ret
            rw [FIN.out]
            exact HU.out.post
end Go.Proofs.YtflnpcgnenhogaaGreatDoor.ls
namespace Go.Proofs.YtflnpcgnenhogaaGreatDoor.ls
open Go.RowKit Go.Proofs.YtflnpcgnenhogaaGreatDoor.own Go.Proofs.YtflnpcgnenhogaaGreatDoor.bit

/-- integers in memory that are only read -/
def IV (w : World) (a : Option Addr) (l : List Nat) : Prop :=
 l.length ≤ 4611686018427387903 ∧ ∀ i (h : i < l.length), ∃ g o, a = some ⟨g, o, none⟩ ∧ g < w.heap.size ∧ w.cell? ⟨g, o + i, none⟩ = some (.int .i64 (l[i] : Int))
theorem IV.below {w w' : World} {a : Option Addr} {l : List Nat} (h : IV w a l) (k : Below w.heap.size w w') : IV w' a l :=
 ⟨h.1, fun i hi => by
  obtain ⟨g, o, h1, h2, h3⟩ := h.2 i hi
  exact ⟨g, o, h1, Nat.lt_of_lt_of_le h2 k.size, (k.cell (p := ⟨g, o + i, none⟩) h2).trans h3⟩⟩
/-- the document's packer, as it is read -/
structure DPv (b : Bp) (T : List Tk) (qb : Nat) (aL : Option Addr) (dL : Nat) (aC : Option Addr) (dC : Nat) (vB : Value) (E : Nat) (W : World) : Prop where
 lt : qb < W.heap.size
 p0 : W.cell? ⟨qb, 0, none⟩ = some (.int .i64 (b.p.win : Int))
 p1 : W.cell? ⟨qb, 1, none⟩ = some (.int .i64 (b.depth : Int))
 p2 : W.cell? ⟨qb, 2, none⟩ = some (.int .i64 (b.p.itv : Int))
 p3 : W.cell? ⟨qb, 3, none⟩ = some (.int .i64 (b.p.zet : Int))
 p4 : W.cell? ⟨qb, 4, none⟩ = some (.int .i64 (b.cap : Int))
 cL : W.cell? ⟨qb, 5, none⟩ = some (.slice aL T.length dL)
 cC : W.cell? ⟨qb, 6, none⟩ = some (.slice aC T.length dC)
 cB : W.cell? ⟨qb, 7, none⟩ = some vB
 cE : W.cell? ⟨qb, 9, none⟩ = some (.int .i64 (E : Int))
 l : LLs W aL (T.map (·.1))
 c : IV W aC (T.map (·.2))
theorem DPv.next {b : Bp} {T : List Tk} {qb : Nat} {aL : Option Addr} {dL : Nat} {aC : Option Addr} {dC : Nat} {vB : Value} {E : Nat} {W W' : World} (h : DPv b T qb aL dL aC dC vB E W) (k : Below W.heap.size W W') : DPv b T qb aL dL aC dC vB E W' :=
 ⟨Nat.lt_of_lt_of_le h.lt k.size, (k.cell h.lt).trans h.p0, (k.cell h.lt).trans h.p1, (k.cell h.lt).trans h.p2, (k.cell h.lt).trans h.p3, (k.cell h.lt).trans h.p4, (k.cell h.lt).trans h.cL, (k.cell h.lt).trans h.cC, (k.cell h.lt).trans h.cB, (k.cell h.lt).trans h.cE, h.l.below k, h.c.below k⟩
/-- behind the last reference that may be nothing is picked -/
theorem pick_stop (b : Bp) (T : List Tk) (succ : List Nat) (r : Nat) (h : ¬ (r < T.length ∧ 0 < succ.length ∧ succ.length ≤ b.cap)) : ∀ k, pickN b T succ (r + k) = pickN b T succ r
 | 0 => rfl
 | k + 1 => by
  rw [← Nat.add_assoc, pickN_succ, pick_stop b T succ r h k]
  unfold stepB
  have e : backB b T (r + k + 1) succ.length = none := by
   unfold backB
   rw [if_neg]
   rintro ⟨⟨_, h1, _⟩, h2⟩
   unfold tkMay at h2
   exact h ⟨by omega, h2.2.2.1, h2.2.2.2.1⟩
  rw [e]
theorem tkOf_at {T : List Tk} {r : Nat} (h0 : 0 < r) (h : r ≤ T.length) : tkOf T r = T[T.length - r]'(by omega) := by
 unfold tkOf
 rw [List.getD_eq_getElem?_getD, List.getElem?_eq_getElem (by omega)]
 rfl
set_option maxRecDepth 100000 in
set_option maxHeartbeats 6400000 in
theorem dbest_any {b : Bp} {T : List Tk} {qb : Nat} {aL : Option Addr} {dL : Nat} {aC : Option Addr} {dC : Nat} {vB : Value} {E : Nat} (W : World) (hv : DPv b T qb aL dL aC dC vB E W) (_hdL : T.length ≤ dL) (_hdC : T.length ≤ dC) (hb : b.p.ok) (hx : T.length < 65536) (hT : TOk T) (a : Option Addr) (succ : List Nat) (cap : Nat) (hc : succ.length ≤ cap) (hs : Ris succ) (hA : LV W a succ) :
  Calls Tryz.prog 70 #[.pointer (some ⟨qb, 0, none⟩), .slice a succ.length cap] W fun e w' => e = .returned (.tuple #[.int .i64 ((pickB b T succ).2.1 : Int), .int .i64 ((pickB b T succ).1 : Int)]) ∧ Below W.heap.size W w' := by
 have hs9 := hs.len
 have hw16 : b.p.win ≤ 16 := hb.1
 have HV := Lib.hid (fun W' (k : Below W.heap.size W W') => hv.next k)
 have HT := Lib.hid hT
 have BL := Lib.hid (fun W' => dblist_any (b.p.win : Int) (b.depth : Int) (b.p.itv : Int) (b.p.zet : Int) (b.cap : Int) W')
 have LD := Lib.hid (fun W' (k : Below W.heap.size W W') (o : Option Addr) (other : List Nat) (co r : Nat) (ho : other.length ≤ co) (hm : MayN T.length succ other r b.p) (hB : LV W' o other) => dlaid_any b.p T.length W' a succ cap o other co r hc ho hm (hA.below k) hB)
 have PM := Lib.hid (plain_may (b := b) hb hx hs)
 have PK := Lib.hid (fun r => pickN_ok b T succ r)
 have PS := Lib.hid (fun r k (h : ¬ (r < T.length ∧ 0 < succ.length ∧ succ.length ≤ b.cap)) => pick_stop b T succ r h k)
 have LL := Lib.hid (fun (other : List Nat) r (hm : MayN T.length succ other r b.p) => lay_len hm)
 have HS := Lib.hid hs
 obtain ⟨m, hm⟩ : ∃ z, succ.length = z := ⟨_, rfl⟩
 have HM := Lib.hid hm
 obtain ⟨nt, hnt⟩ : ∃ z, T.length = z := ⟨_, rfl⟩
 have HNT := Lib.hid hnt
 have HB := Lib.hid hb
 rw [hm] at hc hs9 LD PS ⊢
 rw [hnt] at hx LD PS PM LL
 have VC : Hid (∀ W', Below W.heap.size W W' → W'.cell? ⟨qb, 0, none⟩ = some (.int .i64 (b.p.win : Int)) ∧ W'.cell? ⟨qb, 1, none⟩ = some (.int .i64 (b.depth : Int)) ∧ W'.cell? ⟨qb, 2, none⟩ = some (.int .i64 (b.p.itv : Int)) ∧ W'.cell? ⟨qb, 3, none⟩ = some (.int .i64 (b.p.zet : Int)) ∧ W'.cell? ⟨qb, 4, none⟩ = some (.int .i64 (b.cap : Int)) ∧ W'.cell? ⟨qb, 5, none⟩ = some (.slice aL nt dL) ∧ W'.cell? ⟨qb, 6, none⟩ = some (.slice aC nt dC)) := Lib.hid (fun W' k => by
  have h := hv.next k
  exact ⟨h.p0, h.p1, h.p2, h.p3, h.p4, by rw [← hnt]; exact h.cL, by rw [← hnt]; exact h.cC⟩)
 unfold parV at BL LD
 unfold bpV at BL
 clear hv hT hs hA hm hnt hb
 have K0 := Below.refl W.heap.size W
 obtain ⟨p0, p1, p2, p3, p4, p5, p6⟩ := VC.out _ K0
 go_enter Tryz.func70, Tryz.ntmps70
 go_wp2_with fail
 with_reducible refine (BL.out _).mono ?_
 rintro e w1 ⟨rfl, k1⟩
 have K1 := Lib.hid k1
 have LA : Hid (Calls Tryz.prog 55 #[.int .i64 (nt : Int), .slice a m cap, .slice none 0 0, .int .i64 0, .agg #[.int .i64 (b.p.win : Int), .int .i64 (b.p.itv : Int), .int .i64 (b.p.zet : Int)]] w1 (RowPost (lay nt succ [] 0 b.p) w1)) := Lib.hid (LD.out w1 k1 none [] 0 0 (Nat.le_refl _) PM.out LV.nil)
 clear p0 p1 p2 p3 p4 p5 p6 k1 K0
 go_wp2_with fail
 with_reducible refine LA.out.mono ?_
 rintro e w2 ⟨v2, rfl, own2, k2⟩
 obtain ⟨s2, d2, rfl⟩ := own_shape own2
 have K2 := Lib.hid (K1.out.trans (k2.mono K1.out.size))
 have P0 : Hid ((lay nt succ [] 0 b.p).length = (pickN b T succ 0).1) := Lib.hid (by rw [← HNT.out]; rfl)
 obtain ⟨z0, hz0⟩ : ∃ z, (lay nt succ [] 0 b.p).length = z := ⟨_, rfl⟩
 have hz9 := LL.out [] 0 PM.out
 rw [hz0] at P0 hz9 ⊢
 clear own2 k2 LA hz0
 go_wp2_with fail
 go_loopw [7, 8, 9] (fun v7 v8 v9 wr => ∃ r r1 : Nat, r + 1 = r1 ∧ v9 = .int .i64 (r1 : Int) ∧ r ≤ b.p.win ∧ v7 = .int .i64 ((pickN b T succ r).1 : Int) ∧ v8 = .int .i64 ((pickN b T succ r).2.1 : Int) ∧ Below W.heap.size W wr) (fun _ _ v9 _ => 20 - (intOf v9).toNat)
 case atStart => exact ⟨0, 1, rfl, rfl, Nat.zero_le _, by rw [P0.out], rfl, K2.out⟩
 case round =>
  obtain ⟨r, r1, hr1, rfl, hr, rfl, rfl, hK⟩ := hrel
  rename World => wr
  have KR := Lib.hid hK
  obtain ⟨p0, p1, p2, p3, p4, p5, p6⟩ := VC.out _ hK
  obtain ⟨q, hq⟩ : ∃ q, pickN b T succ r = q := ⟨_, rfl⟩
  have HQ := Lib.hid hq
  have PQ := Lib.hid (PK.out r)
  rw [hq] at PQ ⊢
  have EX : Hid (¬ (r < b.p.win ∧ r < nt ∧ 0 < m ∧ m ≤ b.cap) → pickB b T succ = q) := Lib.hid (fun hno => by
   rw [← hq]
   unfold pickB
   by_cases h1 : r < b.p.win
   ·have h := PS.out r (b.p.win - r) (fun h => hno ⟨h1, h⟩)
    rw [show r + (b.p.win - r) = b.p.win by omega] at h
    exact h
   ·rw [show b.p.win = r by omega])
  obtain ⟨wn, hwn⟩ : ∃ z, b.p.win = z := ⟨_, rfl⟩
  obtain ⟨cp, hcp⟩ : ∃ z, b.cap = z := ⟨_, rfl⟩
  have HW := Lib.hid (And.intro hwn hcp)
  have hw16b : wn ≤ 16 := by omega
  rw [hwn] at p0 hr EX
  rw [hcp] at p4 EX
  obtain ⟨lq, rq, tq⟩ := q
  dsimp only
  have HR1 := Lib.hid hr1
  clear hq hK hwn hcp
  by_cases c1 : r < wn
  ·have i1 : decide ((r1 : Int) ≤ (wn : Int)) = true := decide_eq_true (by omega)
   have n1 : decide (r1 ≤ wn) = true := decide_eq_true (by omega)
   by_cases c2 : r < nt
   ·have i2 : decide ((r1 : Int) ≤ (nt : Int)) = true := decide_eq_true (by omega)
    have n2 : decide (r1 ≤ nt) = true := decide_eq_true (by omega)
    by_cases c3 : 0 < m
    ·have i3 : decide ((0 : Int) < (m : Int)) = true := decide_eq_true (by omega)
     have n3 : decide (0 < m) = true := decide_eq_true (by omega)
     by_cases c4 : m ≤ cp
     ·have i4 : decide ((m : Int) ≤ (cp : Int)) = true := decide_eq_true (by omega)
      have n4 : decide (m ≤ cp) = true := decide_eq_true (by omega)
      --Y
      obtain ⟨j, hj⟩ : ∃ z, nt - r1 = z := ⟨_, rfl⟩
      have hjT : j < T.length := by rw [HNT.out]; omega
      have w1 : IntKind.i64.wrap ((nt : Int) - (r1 : Int)) = (j : Int) := by rw [IntWalk.i64_in _ (by omega)]; omega
      have hjn : (j : Int) < (nt : Int) := by omega
      have hj0 : (0 : Int) ≤ (j : Int) := Int.natCast_nonneg _
      have ET : Hid (tkOf T r1 = T[j]) := Lib.hid (by
       rw [tkOf_at (by omega) (by rw [HNT.out]; omega)]
       congr 1
       rw [HNT.out]
       exact hj)
      have hv := HV.out wr KR.out
      obtain ⟨g, o, s, d, rfl, hg, hcl, hd, hLV⟩ := hv.l.2 j (by rw [List.length_map]; exact hjT)
      obtain ⟨g2, o2, rfl, hg2, hcc⟩ := hv.c.2 j (by rw [List.length_map]; exact hjT)
      rw [List.getElem_map] at hcl hd hLV hcc
      have HTj := HT.out _ (List.getElem_mem hjT)
      obtain ⟨t, ht⟩ : ∃ t, T[j] = t := ⟨_, rfl⟩
      rw [ht] at hcl hd hLV hcc ET HTj
      obtain ⟨tl, tc⟩ := t
      dsimp only at hcl hd hLV hcc HTj
      have htn9 := HTj.len
      have HLV := Lib.hid hLV
      have HTJ := Lib.hid HTj
      obtain ⟨tn, htn⟩ : ∃ z, tl.length = z := ⟨_, rfl⟩
      have HTN := Lib.hid htn
      rw [htn] at hcl hd htn9
      have HBK : Hid (backB b T r1 m = if 0 < tn ∧ tn ≤ cp ∧ tc < b.depth then some (tl, tc) else none) := Lib.hid (by
       have hnt := HNT.out
       have hwn := HW.out.1
       have hcp := HW.out.2
       have htn := HTN.out
       unfold backB
       rw [ET.out]
       by_cases h : 0 < tn ∧ tn ≤ cp ∧ tc < b.depth
       ·rw [if_pos h]
        exact if_pos ⟨⟨by omega, by omega, by omega⟩, (⟨by dsimp only; omega, by dsimp only; omega, c3, by omega, h.2.2⟩ : tkMay b (tl, tc) m)⟩
       ·rw [if_neg h]
        refine if_neg (fun k => h ?_)
        have k2 : tkMay b (tl, tc) m := k.2
        unfold tkMay at k2
        dsimp only at k2
        exact ⟨by omega, by omega, k2.2.2.2.2⟩)
      have ST : Hid (pickN b T succ r1 = match (if 0 < tn ∧ tn ≤ cp ∧ tc < b.depth then some (tl, tc) else none) with | none => (lq, rq, tq) | some t => if (lay nt succ t.1 r1 b.p).length < lq then ((lay nt succ t.1 r1 b.p).length, r1, t) else (lq, rq, tq)) := Lib.hid (by
       rw [← HR1.out, pickN_succ, HQ.out]
       unfold stepB
       rw [HM.out, HR1.out, HBK.out, HNT.out]
       rfl)
      have dq : lq ≤ 5243040 := by
       have h1 := PQ.out.le
       have h2 := LL.out [] 0 PM.out
       dsimp only at h1
       rw [HNT.out] at h1
       omega
      clear hv ht htn HTj hLV hj hg hg2
      go_upto_region 8 with fail
      obtain ⟨dp, hdp⟩ : ∃ z, b.depth = z := ⟨_, rfl⟩
      rw [hdp] at p1 ST
      have HDP := Lib.hid hdp
      clear hdp HBK
      by_cases e1 : tn = 0
      ·subst e1
       have ST2 : Hid (pickN b T succ r1 = (lq, rq, tq)) := Lib.hid (by rw [ST.out, if_neg (fun h => absurd h.1 (Nat.lt_irrefl 0))])
       clear ST
       go_quiet (fail)
       go_wp2_with fail
       go_roundw
       case rel => exact ⟨r1, r1 + 1, rfl, by go_num, by have := HW.out.1; omega, by rw [ST2.out], by rw [ST2.out], KR.out.trans ⟨rfl, rfl, rfl, Nat.le_refl _, fun _ _ => rfl⟩⟩
       case measure => simp [intOf]; omega
      ·have j1 : ((tn : Int) == 0) = false := by simp; omega
       by_cases e2 : tn ≤ cp
       ·have j2 : decide ((cp : Int) < (tn : Int)) = false := decide_eq_false (by omega)
        have m2 : decide (cp < tn) = false := decide_eq_false (by omega)
        by_cases e3 : tc < dp
        ·have j3 : decide ((dp : Int) ≤ (tc : Int)) = false := decide_eq_false (by omega)
         have m3 : decide (dp ≤ tc) = false := decide_eq_false (by omega)
         go_quiet (fail)
         have KQ : Hid (Below W.heap.size W (wr.drewN nq)) := Lib.hid (KR.out.trans ⟨rfl, rfl, rfl, Nat.le_refl _, fun _ _ => rfl⟩)
         have BL2 : Hid (∀ W', Calls Tryz.prog 64 #[.agg #[.int .i64 (wn : Int), .int .i64 (dp : Int), .int .i64 (b.p.itv : Int), .int .i64 (b.p.zet : Int), .int .i64 (cp : Int)]] W' fun e w' => e = .returned (.agg #[.int .i64 (wn : Int), .int .i64 (b.p.itv : Int), .int .i64 (b.p.zet : Int)]) ∧ Below W'.heap.size W' w') := Lib.hid (by
          have h := BL.out
          rw [HW.out.1, HW.out.2, HDP.out] at h
          exact h)
         have hmy : MayN nt succ tl r1 b.p := ⟨HB.out, hx, HS.out, HTJ.out, by have := HW.out.1; omega, .inl (by omega)⟩
         have LZ := LL.out tl r1 hmy
         have LD2 : Hid (∀ W', Below W.heap.size W W' → LV W' s tl → Calls Tryz.prog 55 #[.int .i64 (nt : Int), .slice a m cap, .slice s tn d, .int .i64 (r1 : Int), .agg #[.int .i64 (wn : Int), .int .i64 (b.p.itv : Int), .int .i64 (b.p.zet : Int)]] W' (RowPost (lay nt succ tl r1 b.p) W')) := Lib.hid (fun W' k hl => by
          have h := LD.out W' k s tl d r1 (by rw [HTN.out]; exact hd) hmy hl
          rw [HTN.out, HW.out.1] at h
          exact h)
         obtain ⟨z, hz⟩ : ∃ z, (lay nt succ tl r1 b.p).length = z := ⟨_, rfl⟩
         rw [hz] at LZ
         have HZ := Lib.hid hz
         rw [if_pos ⟨by omega, e2, e3⟩] at ST
         have LVQ : Hid (LV (wr.drewN nq) s tl) := Lib.hid (HLV.out.below ⟨rfl, rfl, rfl, Nat.le_refl _, fun _ _ => rfl⟩)
         have p0 : (wr.drewN nq).cell? ⟨qb, 0, none⟩ = some (.int .i64 (wn : Int)) := p0
         have p1 : (wr.drewN nq).cell? ⟨qb, 1, none⟩ = some (.int .i64 (dp : Int)) := p1
         have p2 : (wr.drewN nq).cell? ⟨qb, 2, none⟩ = some (.int .i64 (b.p.itv : Int)) := p2
         have p3 : (wr.drewN nq).cell? ⟨qb, 3, none⟩ = some (.int .i64 (b.p.zet : Int)) := p3
         have p4 : (wr.drewN nq).cell? ⟨qb, 4, none⟩ = some (.int .i64 (cp : Int)) := p4
         generalize wr.drewN nq = wq at KQ LVQ p0 p1 p2 p3 p4 ⊢
         clear hmy hz hcl hcc p5 p6
         go_wp2_with fail
         with_reducible refine (BL2.out _).mono ?_
         rintro e w4 ⟨rfl, k4⟩
         have K4 := Lib.hid (KQ.out.trans (k4.mono KQ.out.size))
         have LA2 := Lib.hid (LD2.out w4 K4.out (LVQ.out.below k4))
         clear k4 p0 p1 p2 p3 p4
         go_wp2_with fail
         with_reducible refine LA2.out.mono ?_
         rintro e w5 ⟨v5, rfl, own5, k5⟩
         rw [HZ.out] at own5
         obtain ⟨s5, d5, rfl⟩ := own_shape own5
         have K5 := Lib.hid (K4.out.trans (k5.mono K4.out.size))
         clear own5 k5 LA2
         by_cases hzl : z < lq
         ·have j5 : decide ((z : Int) < (lq : Int)) = true := decide_eq_true (by omega)
          have j5n : decide (z < lq) = true := decide_eq_true hzl
          have ST2 : Hid (pickN b T succ r1 = (z, r1, (tl, tc))) := Lib.hid (by
           rw [ST.out]
           show (if (lay nt succ tl r1 b.p).length < lq then _ else _) = _
           rw [HZ.out, if_pos hzl])
          clear ST
          go_wp2_with fail
          go_roundw
          case rel => exact ⟨r1, r1 + 1, rfl, by go_num, by have := HW.out.1; omega, by rw [ST2.out], by rw [ST2.out], K5.out⟩
          case measure => simp [intOf]; omega
         ·have j5 : decide ((z : Int) < (lq : Int)) = false := decide_eq_false (by omega)
          have j5n : decide (z < lq) = false := decide_eq_false hzl
          have ST2 : Hid (pickN b T succ r1 = (lq, rq, tq)) := Lib.hid (by
           rw [ST.out]
           show (if (lay nt succ tl r1 b.p).length < lq then _ else _) = _
           rw [HZ.out, if_neg hzl])
          clear ST
          go_wp2_with fail
          go_roundw
          case rel => exact ⟨r1, r1 + 1, rfl, by go_num, by have := HW.out.1; omega, by rw [ST2.out], by rw [ST2.out], K5.out⟩
          case measure => simp [intOf]; omega
        ·have j3 : decide ((dp : Int) ≤ (tc : Int)) = true := decide_eq_true (by omega)
         have m3 : decide (dp ≤ tc) = true := decide_eq_true (by omega)
         have ST2 : Hid (pickN b T succ r1 = (lq, rq, tq)) := Lib.hid (by rw [ST.out, if_neg (fun h => e3 h.2.2)])
         clear ST
         go_quiet (fail)
         go_wp2_with fail
         go_roundw
         case rel => exact ⟨r1, r1 + 1, rfl, by go_num, by have := HW.out.1; omega, by rw [ST2.out], by rw [ST2.out], KR.out.trans ⟨rfl, rfl, rfl, Nat.le_refl _, fun _ _ => rfl⟩⟩
         case measure => simp [intOf]; omega
       ·have j2 : decide ((cp : Int) < (tn : Int)) = true := decide_eq_true (by omega)
        have m2 : decide (cp < tn) = true := decide_eq_true (by omega)
        have ST2 : Hid (pickN b T succ r1 = (lq, rq, tq)) := Lib.hid (by rw [ST.out, if_neg (fun h => e2 h.2.1)])
        clear ST
        go_quiet (fail)
        go_wp2_with fail
        go_roundw
        case rel => exact ⟨r1, r1 + 1, rfl, by go_num, by have := HW.out.1; omega, by rw [ST2.out], by rw [ST2.out], KR.out.trans ⟨rfl, rfl, rfl, Nat.le_refl _, fun _ _ => rfl⟩⟩
        case measure => simp [intOf]; omega
     ·have i4 : decide ((m : Int) ≤ (cp : Int)) = false := decide_eq_false (by omega)
      have n4 : decide (m ≤ cp) = false := decide_eq_false (by omega)
      have e := Lib.hid (EX.out (fun h => c4 h.2.2.2))
      go_wp2_with fail
      exact bodyPost_ret (v := .tuple #[.int .i64 (rq : Int), .int .i64 (lq : Int)]) (by simp [results, Tryz.results70, go_sem]) rfl ⟨by rw [e.out], KR.out⟩
    ·have i3 : decide ((0 : Int) < (m : Int)) = false := decide_eq_false (by omega)
     have n3 : decide (0 < m) = false := decide_eq_false (by omega)
     have e := Lib.hid (EX.out (fun h => c3 h.2.2.1))
     go_wp2_with fail
     exact bodyPost_ret (v := .tuple #[.int .i64 (rq : Int), .int .i64 (lq : Int)]) (by simp [results, Tryz.results70, go_sem]) rfl ⟨by rw [e.out], KR.out⟩
   ·have i2 : decide ((r1 : Int) ≤ (nt : Int)) = false := decide_eq_false (by omega)
    have n2 : decide (r1 ≤ nt) = false := decide_eq_false (by omega)
    have e := Lib.hid (EX.out (fun h => c2 h.2.1))
    go_wp2_with fail
    exact bodyPost_ret (v := .tuple #[.int .i64 (rq : Int), .int .i64 (lq : Int)]) (by simp [results, Tryz.results70, go_sem]) rfl ⟨by rw [e.out], KR.out⟩
  ·have i1 : decide ((r1 : Int) ≤ (wn : Int)) = false := decide_eq_false (by omega)
   have n1 : decide (r1 ≤ wn) = false := decide_eq_false (by omega)
   have e := Lib.hid (EX.out (fun h => c1 h.1))
   go_wp2_with fail
   exact bodyPost_ret (v := .tuple #[.int .i64 (rq : Int), .int .i64 (lq : Int)]) (by simp [results, Tryz.results70, go_sem]) rfl ⟨by rw [e.out], KR.out⟩
end Go.Proofs.YtflnpcgnenhogaaGreatDoor.ls
namespace Go.Proofs.YtflnpcgnenhogaaGreatDoor.ls
open Go.RowKit Go.Proofs.YtflnpcgnenhogaaGreatDoor.own Go.Proofs.YtflnpcgnenhogaaGreatDoor.bit

/-! ### the plain law -/
/-! ### rows of lists -/
def GRow (ks : List (Nat × Obj)) (V : List Value) (G : List (List Nat)) : Prop := V.length = G.length ∧ ∀ i (h : i < G.length), ∃ s d, V[i]? = some (.slice s G[i].length d) ∧ G[i].length ≤ d ∧ Stands ks s G[i]
theorem GRow.nil (ks : List (Nat × Obj)) : GRow ks [] [] := ⟨rfl, fun i h => by cases h⟩
theorem GRow.more {ks ks' : List (Nat × Obj)} {V : List Value} {G : List (List Nat)} (h : GRow ks V G) (hs : ∀ p ∈ ks, p ∈ ks') : GRow ks' V G := ⟨h.1, fun i hi => by
 obtain ⟨s, d, h1, h2, h3⟩ := h.2 i hi
 exact ⟨s, d, h1, h2, h3.more hs⟩⟩
theorem GRow.snoc {ks : List (Nat × Obj)} {V : List Value} {G : List (List Nat)} (h : GRow ks V G) (l : List Nat) (s : Option Addr) (d : Nat) (hd : l.length ≤ d) (hs : Stands ks s l) : GRow ks (V ++ [.slice s l.length d]) (G ++ [l]) := by
 refine ⟨by rw [List.length_append, List.length_append, h.1]; rfl, fun i hi => ?_⟩
 rw [List.length_append, List.length_singleton] at hi
 by_cases hlt : i < G.length
 ·obtain ⟨s', d', h1, h2, h3⟩ := h.2 i hlt
  refine ⟨s', d', ?_, ?_, ?_⟩
  ·rw [List.getElem?_append_left (by rw [h.1]; exact hlt), List.getElem_append_left hlt]; exact h1
  ·rw [List.getElem_append_left hlt]; exact h2
  ·rw [List.getElem_append_left hlt]; exact h3
 ·obtain rfl : i = G.length := by omega
  refine ⟨s, d, ?_, ?_, ?_⟩
  ·rw [List.getElem?_append_right (by rw [h.1]; exact Nat.le_refl _), h.1, Nat.sub_self, List.getElem_append_right (Nat.le_refl _)]; simp
  ·rw [List.getElem_append_right (Nat.le_refl _)]; simpa using hd
  ·rw [List.getElem_append_right (Nat.le_refl _)]; simpa using hs
theorem GRow.lls {ks : List (Nat × Obj)} {V : List Value} {G : List (List Nat)} (h : GRow ks V G) {W : World} {base : Nat} {a : Option Addr} {d : Nat} (ho : W.ownsRow base 34 1 (.slice a G.length d) G.length V) (hl : G.length ≤ 4611686018427387903) (hk : ∀ p ∈ ks, W.heap[p.1]? = some p.2) : LLs W a G := by
 refine ⟨hl, fun i hi => ?_⟩
 obtain ⟨s, d', h1, h2, h3⟩ := h.2 i hi
 rcases ho.2 with ⟨_, h0⟩ | ⟨g, cap, cur, hv, _, hg, _, _, _, _⟩
 ·omega
 ·injection hv with e1 e2 e3
  subst e1 e3
  refine ⟨g, 0, s, d', rfl, lt_of_block hg, ?_, h2, h3 W hk⟩
  rw [Nat.zero_add, ho.cellAt i (by omega)]
  exact h1

/-! ### the lists so far, and one that grows -/
def ML (w0 : World) (ks : List (Nat × Obj)) (V : List Value) (v : Value) (L : List Nat) (u : Value) (W : World) : Prop :=
 LG 34 1 w0 ks V.length V v W ∧ W.ownsRow w0.heap.size 77 1 u L.length (u32V L) ∧ (∀ g, v.ownBlock = some g → u.ownBlock ≠ some g) ∧ ∀ p ∈ ks, some p.1 ≠ u.ownBlock
theorem Tryz.infoU32s : (Tryz.prog.info? 34).map (fun i => (i.zero, i.size, i.bytes)) = some (some (.slice none 0 0), 1, 24) := by kernel_rfl
end Go.Proofs.YtflnpcgnenhogaaGreatDoor.ls
namespace Go.Proofs.YtflnpcgnenhogaaGreatDoor.ls
open Go.RowKit Go.Proofs.YtflnpcgnenhogaaGreatDoor.own Go.Proofs.YtflnpcgnenhogaaGreatDoor.bit

def u64V (l : List Nat) : List Value := l.map fun (v : Nat) => Value.int .u64 (v : Int)
/-- a packer, and a row of places of the call's own -/
def EA (w : World) (b : Bp) (T : List Tk) (wb E : Nat) (l : Bits) (kb : Nat) (ls ks : List (Nat × Obj)) (va : Value) (A : List Nat) (W : World) : Prop :=
 W.ownsRow 0 97 1 va A.length (u64V A) ∧ ∃ ka, KS w b T wb E 0 l none kb ls (ka ++ ks) W ∧ (∀ g, va.ownBlock = some g → ∃ o, (g, o) ∈ ka) ∧ (∀ p ∈ ka, some p.1 = va.ownBlock) ∧ ∀ p ∈ ls ++ ks, some p.1 ≠ va.ownBlock
section
variable {w W W' : World} {b : Bp} {T : List Tk} {wb E D : Nat} {l : Bits} {rd : Option (Nat × ByteArray × Nat)} {kb : Nat} {ls ks js : List (Nat × Obj)} {va : Value} {A : List Nat}
end
end Go.Proofs.YtflnpcgnenhogaaGreatDoor.ls
namespace Go.Proofs.YtflnpcgnenhogaaGreatDoor.ls
open Go.RowKit Go.Proofs.YtflnpcgnenhogaaGreatDoor.own Go.Proofs.YtflnpcgnenhogaaGreatDoor.bit

/-! ### rows of a call's own, each in blocks of its own -/
def KA (ka : List (Nat × Obj)) (v : Value) : Prop := (∀ g, v.ownBlock = some g → ∃ o, (g, o) ∈ ka) ∧ ∀ p ∈ ka, some p.1 = v.ownBlock
theorem KA.none : KA [] (.slice none 0 0) := ⟨fun g hg => (by cases hg), fun p hp => (by cases hp)⟩
def Off (K : List (Nat × Obj)) (v : Value) : Prop := ∀ p ∈ K, some p.1 ≠ v.ownBlock
theorem Off.none (K : List (Nat × Obj)) : Off K (.slice none 0 0) := fun p _ e => by cases e
theorem Off.app {a b : List (Nat × Obj)} {v : Value} (h : Off a v) (k : Off b v) : Off (a ++ b) v := fun p hp => (List.mem_append.1 hp).elim (h p) (k p)
theorem Off.sub {a b : List (Nat × Obj)} {v : Value} (h : Off a v) (k : ∀ p ∈ b, p ∈ a) : Off b v := fun p hp => h p (k p hp)
/-- such a row grows, the rest stands still -/
theorem FS.push {w W W2 : World} {wr : Option (Nat × Bits)} {rd : Option (Nat × ByteArray × Nat)} {ka K : List (Nat × Obj)} {v v' : Value} {T : TypeId} {n : Nat} {xs : List Value} (h : FS w wr rd (ka ++ K) W) (ha : KA ka v) (hoff : Off K v) (hg : W.grownBy W2 v.ownBlock) (own : W2.ownsRow 0 T 1 v' n xs) (hw : v'.ownBlock = v.ownBlock ∨ v'.ownBlock = some W.heap.size) :
  ∃ k2, KA k2 v' ∧ Off K v' ∧ FS w wr rd (k2 ++ K) W2 ∧ ∀ p ∈ k2, (∃ o, (p.1, o) ∈ ka) ∨ W.heap.size ≤ p.1 := by
 obtain ⟨k2, hk1, hk2, hk3⟩ := own_ks own
 have old : ∀ p ∈ K, p.1 < W.heap.size := fun p hp => lt_of_block (h.row (b := p.1) (o := p.2) (List.mem_append_right _ hp))
 refine ⟨k2, ⟨hk1, hk2⟩, fun p hp => own_new hw (old p hp) (hoff p hp), h.grown hg (fun g e => ?_) (fun p hp => ?_), fun p hp => ?_⟩
 ·obtain ⟨o, ho⟩ := ha.1 g e
  exact ⟨o, List.mem_append_left _ ho⟩
 ·rcases List.mem_append.1 hp with hp | hp
  ·refine .inr ⟨?_, hk3 p hp⟩
   rcases hw with e | e
   ·exact .inl ((hk2 p hp).trans e)
   ·have := (hk2 p hp).trans e
    injection this with this
    exact .inr (by omega)
  ·exact .inl ⟨List.mem_append_right _ hp, hoff p hp⟩
 ·rcases hw with e | e
  ·have := (hk2 p hp).trans e
   exact .inl (ha.1 _ this.symm)
  ·have := (hk2 p hp).trans e
   injection this with this
   exact .inr (by omega)
end Go.Proofs.YtflnpcgnenhogaaGreatDoor.ls
namespace Go.Proofs.YtflnpcgnenhogaaGreatDoor.ls
open Go.RowKit Go.Proofs.YtflnpcgnenhogaaGreatDoor.own Go.Proofs.YtflnpcgnenhogaaGreatDoor.bit

structure Rw where
 T : TypeId
 v : Value
 xs : List Value
def Rw.owned (r : Rw) (W : World) : Prop := W.ownsRow 0 r.T 1 r.v r.xs.length r.xs
def Rws (w : World) (wr : Option (Nat × Bits)) (rd : Option (Nat × ByteArray × Nat)) : List Rw → List (Nat × Obj) → World → Prop
 | [], K, W => FS w wr rd K W
 | r :: rs, K, W => ∃ ka, KA ka r.v ∧ r.owned W ∧ Off K r.v ∧ Rws w wr rd rs (ka ++ K) W
section
variable {w W W2 : World} {wr wr' : Option (Nat × Bits)} {rd rd' : Option (Nat × ByteArray × Nat)} {rs : List Rw} {K K' : List (Nat × Obj)}
theorem Rws.sub : ∀ {rs : List Rw} {K K' : List (Nat × Obj)}, Rws w wr rd rs K W → (∀ p ∈ K', p ∈ K) → Rws w wr rd rs K' W
 | [], _, _, h, k => FS.sub h k
 | _ :: _, _, _, ⟨ka, h1, h2, h3, h4⟩, k => ⟨ka, h1, h2, h3.sub k, h4.sub (fun p hp => by
  rcases List.mem_append.1 hp with hp | hp
  ·exact List.mem_append_left _ hp
  ·exact List.mem_append_right _ (k p hp))⟩
theorem Rws.fs : ∀ {rs : List Rw} {K : List (Nat × Obj)}, Rws w wr rd rs K W → FS w wr rd K W
 | [], _, h => h
 | _ :: _, _, ⟨_, _, _, _, h4⟩ => (Rws.fs h4).sub (fun _ hp => List.mem_append_right _ hp)
theorem Rws.has (h : Rws w wr rd rs K W) {p : Nat × Obj} (hp : p ∈ K) : W.heap[p.1]? = some p.2 := h.fs.row (b := p.1) (o := p.2) hp
theorem Rws.below (h : Rws w wr rd rs K W) : Below w.heap.size w W := h.fs.below
theorem KA.off {ka kb : List (Nat × Obj)} {v u : Value} (ha : KA ka v) (hb : KA kb u) (h : Off ka u) : Off kb v := fun p hp e => by
 obtain ⟨o, ho⟩ := ha.1 p.1 e.symm
 exact h _ ho (hb.2 p hp)
theorem Rws.swap {a b : Rw} (h : Rws w wr rd (a :: b :: rs) K W) : Rws w wr rd (b :: a :: rs) K W := by
 obtain ⟨ka, h1, h2, h3, kb, h4, h5, h6, h7⟩ := h
 refine ⟨kb, h4, h5, h6.sub (fun p hp => List.mem_append_right _ hp), ka, h1, h2, (h1.off h4 (h6.sub (fun p hp => List.mem_append_left _ hp))).app h3, h7.sub (fun p hp => ?_)⟩
 simp only [List.mem_append] at hp ⊢
 rcases hp with hp | hp | hp
 ·exact .inr (.inl hp)
 ·exact .inl hp
 ·exact .inr (.inr hp)
theorem Rws.perm {rs rs' : List Rw} (hp : List.Perm rs rs') : ∀ {K : List (Nat × Obj)}, Rws w wr rd rs K W → Rws w wr rd rs' K W := by
 induction hp with
 | nil => exact fun h => h
 | cons a _ ih => exact fun ⟨ka, h1, h2, h3, h4⟩ => ⟨ka, h1, h2, h3, ih h4⟩
 | swap a b l => exact fun h => h.swap
 | trans _ _ ih1 ih2 => exact fun h => ih2 (ih1 h)
theorem Rw.same {r : Rw} {ka Ka Kb : List (Nat × Obj)} (h : r.owned W) (hk : KA ka r.v) (f : FS w wr rd (ka ++ Ka) W) (f2 : FS w wr' rd' (ka ++ Kb) W2) : r.owned W2 :=
 own_same2 h (fun g hg => by
  obtain ⟨o, ho⟩ := hk.1 g hg
  rw [f.row (b := g) (o := o) (List.mem_append_left _ ho), f2.row (b := g) (o := o) (List.mem_append_left _ ho)])
/-- the state takes a step, the rows stay -/
theorem Rws.step : ∀ {rs : List Rw} {K K' : List (Nat × Obj)}, Rws w wr rd rs K W → (∀ Kx, FS w wr rd (Kx ++ K) W → FS w wr' rd' (Kx ++ K') W2) → (∀ p ∈ K', (∃ o, (p.1, o) ∈ K) ∨ W.heap.size ≤ p.1) → Rws w wr' rd' rs K' W2
 | [], _, _, h, hs, _ => hs [] h
 | r :: rs, K, K', ⟨ka, h1, h2, h3, h4⟩, hs, hk => by
  have f := h4.fs
  have g := Rws.step (K' := ka ++ K') h4 (fun Kx hx => by
   rw [← List.append_assoc] at hx ⊢
   exact hs _ hx) (fun p hp => by
   rcases List.mem_append.1 hp with hp | hp
   ·exact .inl ⟨p.2, List.mem_append_left _ hp⟩
   ·rcases hk p hp with ⟨o, ho⟩ | hl
    ·exact .inl ⟨o, List.mem_append_right _ ho⟩
    ·exact .inr hl)
  refine ⟨ka, h1, Rw.same h2 h1 f g.fs, fun p hp e => ?_, g⟩
  rcases hk p hp with ⟨o, ho⟩ | hl
  ·exact h3 _ ho e
  ·obtain ⟨o, ho⟩ := h1.1 p.1 e.symm
   have := lt_of_block (f.row (b := p.1) (o := o) (List.mem_append_left _ ho))
   omega
theorem Rws.next (h : Rws w wr rd rs K W) (k : Below W.heap.size W W2) : Rws w wr rd rs K W2 := h.step (fun _ hx => hx.next k) (fun p hp => .inl ⟨p.2, hp⟩)
theorem Rws.more {js : List (Nat × Obj)} (h : Rws w wr rd rs K W) (k : Below W.heap.size W W2) (hj : ∀ p ∈ js, W.heap.size ≤ p.1 ∧ W2.heap[p.1]? = some p.2) : Rws w wr rd rs (js ++ K) W2 :=
 h.step (fun Kx hx => (hx.more k hj).sub (fun p hp => by
  simp only [List.mem_append] at hp ⊢
  rcases hp with hp | hp | hp
  ·exact .inr (.inl hp)
  ·exact .inl hp
  ·exact .inr (.inr hp))) (fun p hp => (List.mem_append.1 hp).elim (fun hp => .inr (hj p hp).1) (fun hp => .inl ⟨p.2, hp⟩))
theorem Rws.add (h : Rws w wr rd rs K W) (row : Array Value) (T : TypeId) : Rws w wr rd rs ((W.heap.size, .cells row T (0, 0)) :: K) (W.alloc (.cells row T)) :=
 h.more (js := [(W.heap.size, .cells row T (0, 0))]) ((Below.refl _ _).alloc (Nat.le_refl _) _) (fun p hp => by rw [List.mem_singleton.1 hp]; exact ⟨Nat.le_refl _, heap_alloc_new W _⟩)
/-- a block beside is turned -/
theorem Rws.turn {b : Nat} {o o' : Obj} (h : Rws w wr rd rs ((b, o) :: K) W) (k : Keeps W W2 (fun x => x = b)) (hb : W2.heap[b]? = some o') (hne : ∀ p ∈ K, p.1 ≠ b) : Rws w wr rd rs ((b, o') :: K) W2 := by
 have key : ∀ {rs : List Rw} {K : List (Nat × Obj)}, Rws w wr rd rs ((b, o) :: K) W → (∀ p ∈ K, p.1 ≠ b) → Rws w wr rd rs ((b, o') :: K) W2 := by
  intro rs
  induction rs with
  | nil => exact fun h hne => FS.turn h k hb hne
  | cons r rs ih =>
   rintro K ⟨ka, h1, h2, h3, h4⟩ hne
   have hnk : ∀ p ∈ ka, p.1 ≠ b := fun p hp e => h3 (b, o) (List.mem_cons_self ..) (by rw [← e]; exact h1.2 p hp)
   have g := ih (h4.sub (K' := (b, o) :: (ka ++ K)) (fun p hp => by
    simp only [List.mem_cons, List.mem_append] at hp ⊢
    rcases hp with hp | hp | hp
    ·exact .inr (.inl hp)
    ·exact .inl hp
    ·exact .inr (.inr hp))) (fun p hp => (List.mem_append.1 hp).elim (hnk p) (hne p))
   have g2 := g.sub (K' := ka ++ ((b, o') :: K)) (fun p hp => by
    simp only [List.mem_cons, List.mem_append] at hp ⊢
    rcases hp with hp | hp | hp
    ·exact .inr (.inl hp)
    ·exact .inl hp
    ·exact .inr (.inr hp))
   refine ⟨ka, h1, Rw.same h2 h1 h4.fs g2.fs, fun p hp e => ?_, g2⟩
   rcases List.mem_cons.1 hp with rfl | hp
   ·exact h3 (b, o) (List.mem_cons_self ..) e
   ·exact h3 p (List.mem_cons_of_mem _ hp) e
 exact key h hne
theorem Rws.store {b j : Nat} {row : Array Value} {T : TypeId} (v : Value) (h : Rws w wr rd rs ((b, .cells row T (0, 0)) :: K) W) (hne : ∀ p ∈ K, p.1 ≠ b) : Rws w wr rd rs ((b, .cells (row.setIfInBounds j v) T (0, 0)) :: K) (W.setCell ⟨b, j, none⟩ v) :=
 h.turn ((Keeps.refl W (fun x => x = b)).setCell (p := ⟨b, j, none⟩) (.inl rfl) v) (heap_setCell_same W b j _ _ v (h.has (p := (b, .cells row T (0, 0))) (List.mem_cons_self ..))) hne
/-- the first row grows -/
theorem Rws.pushIn {ka : List (Nat × Obj)} {v v' : Value} {T : TypeId} {n : Nat} {xs : List Value} (ha : KA ka v) (hg : W.grownBy W2 v.ownBlock) (own : W2.ownsRow 0 T 1 v' n xs) (hw : v'.ownBlock = v.ownBlock ∨ v'.ownBlock = some W.heap.size) :
  ∀ {rs : List Rw} {K : List (Nat × Obj)}, Rws w wr rd rs (ka ++ K) W → Off K v → ∃ k2, KA k2 v' ∧ Off K v' ∧ Rws w wr rd rs (k2 ++ K) W2
 | [], _, h, ho => by
  obtain ⟨k2, h1, h2, h3, _⟩ := FS.push h ha ho hg own hw
  exact ⟨k2, h1, h2, h3⟩
 | r :: rs, K, ⟨kr, h1, h2, h3, h4⟩, ho => by
  have mv : ∀ (x y z : List (Nat × Obj)), ∀ p ∈ y ++ (x ++ z), p ∈ x ++ (y ++ z) := fun x y z p hp => by
   simp only [List.mem_append] at hp ⊢
   rcases hp with hp | hp | hp
   ·exact .inr (.inl hp)
   ·exact .inl hp
   ·exact .inr (.inr hp)
  obtain ⟨k2, g1, g2, g3⟩ := Rws.pushIn ha hg own hw (h4.sub (mv kr ka K)) ((ha.off h1 (h3.sub (fun p hp => List.mem_append_left _ hp))).app ho)
  have g4 := g3.sub (mv k2 kr K)
  refine ⟨k2, g1, g2.sub (fun p hp => List.mem_append_right _ hp), kr, h1, Rw.same h2 h1 h4.fs g4.fs, ?_, g4⟩
  exact (h1.off g1 (g2.sub (fun p hp => List.mem_append_left _ hp))).app (h3.sub (fun p hp => List.mem_append_right _ hp))
theorem Rws.push {v v' : Value} {T : TypeId} {xs xs' : List Value} (h : Rws w wr rd (⟨T, v, xs⟩ :: rs) K W) (own : W2.ownsRow 0 T 1 v' xs'.length xs') (hg : W.grownBy W2 v.ownBlock) (hw : v'.ownBlock = v.ownBlock ∨ v'.ownBlock = some W.heap.size) : Rws w wr rd (⟨T, v', xs'⟩ :: rs) K W2 := by
 obtain ⟨ka, h1, _, h3, h4⟩ := h
 obtain ⟨k2, g1, g2, g3⟩ := Rws.pushIn h1 hg own hw h4 h3
 exact ⟨k2, g1, own, g2, g3⟩
theorem Rws.own {r : Rw} (h : Rws w wr rd (r :: rs) K W) : r.owned W := by
 obtain ⟨ka, h1, h2, h3⟩ := h
 exact h2
theorem Rws.lift {T : TypeId} (h : Rws w wr rd rs K W) : Rws w wr rd (⟨T, .slice none 0 0, []⟩ :: rs) K W := ⟨[], KA.none, World.ownsRow_nil _ _ _ _, Off.none _, h⟩
end
end Go.Proofs.YtflnpcgnenhogaaGreatDoor.ls
namespace Go.Proofs.YtflnpcgnenhogaaGreatDoor.ls
open Go.RowKit Go.Proofs.YtflnpcgnenhogaaGreatDoor.own Go.Proofs.YtflnpcgnenhogaaGreatDoor.bit

def chV (T : List Tk) : List Value := T.map fun (t : Tk) => Value.int .i64 (t.2 : Int)
theorem chV_length (T : List Tk) : (chV T).length = T.length := by unfold chV; rw [List.length_map]
theorem chV_snoc (T : List Tk) (t : Tk) : chV (T ++ [t]) = chV T ++ [.int .i64 (t.2 : Int)] := by unfold chV; rw [List.map_append]; rfl
theorem bls_len (l : Bits) : (bls l).length = l.length := by unfold bls; rw [List.length_map]
def dpRow (b : Bp) (vL vC vB : Value) (dr E : Nat) : Array Value := #[.int .i64 (b.p.win : Int), .int .i64 (b.depth : Int), .int .i64 (b.p.itv : Int), .int .i64 (b.p.zet : Int), .int .i64 (b.cap : Int), vL, vC, vB, .int .i64 (dr : Int), .int .i64 (E : Int)]
/-- the document's packer: its block, its three rows, its lists; other rows and blocks beside -/
def DP (w : World) (wr : Option (Nat × Bits)) (rd : Option (Nat × ByteArray × Nat)) (b : Bp) (T : List Tk) (l : Bits) (dr E qb : Nat) (gs : List (Nat × Obj)) (vL vC vB : Value) (V : List Value) (rs : List Rw) (ks : List (Nat × Obj)) (W : World) : Prop :=
 Rws w wr rd (⟨34, vL, V⟩ :: ⟨3, vC, chV T⟩ :: ⟨4, vB, bls l⟩ :: rs) ((qb, .cells (dpRow b vL vC vB dr E) 87 (0, 0)) :: (gs ++ ks)) W ∧ GRow gs V (T.map (·.1)) ∧ ∀ p ∈ gs ++ ks, p.1 ≠ qb
section
variable {w W W' : World} {wr : Option (Nat × Bits)} {rd : Option (Nat × ByteArray × Nat)} {b : Bp} {T : List Tk} {l : Bits} {dr E qb : Nat} {gs : List (Nat × Obj)} {vL vC vB : Value} {V : List Value} {rs : List Rw} {ks : List (Nat × Obj)}
theorem DP.next (h : DP w wr rd b T l dr E qb gs vL vC vB V rs ks W) (k : Below W.heap.size W W') : DP w wr rd b T l dr E qb gs vL vC vB V rs ks W' := ⟨h.1.next k, h.2⟩
theorem DP.below (h : DP w wr rd b T l dr E qb gs vL vC vB V rs ks W) : Below w.heap.size w W := h.1.below
theorem DP.row (h : DP w wr rd b T l dr E qb gs vL vC vB V rs ks W) : W.heap[qb]? = some (.cells (dpRow b vL vC vB dr E) 87 (0, 0)) := h.1.has (List.mem_cons_self ..)
theorem DP.ownL (h : DP w wr rd b T l dr E qb gs vL vC vB V rs ks W) : W.ownsRow 0 34 1 vL T.length V := by
 have h1 := h.1.own
 have h2 := h.2.1.1
 rw [List.length_map] at h2
 unfold Rw.owned at h1
 dsimp only at h1
 rw [h2] at h1
 exact h1
theorem DP.ownC (h : DP w wr rd b T l dr E qb gs vL vC vB V rs ks W) : W.ownsRow 0 3 1 vC T.length (chV T) := by
 have h1 := h.1.swap.own
 unfold Rw.owned at h1
 dsimp only at h1
 rw [chV_length] at h1
 exact h1
theorem rot3 {α : Type} (x y z : α) (r : List α) : List.Perm (x :: y :: z :: r) (z :: x :: y :: r) := (List.Perm.cons x (List.Perm.swap z y r)).trans (List.Perm.swap z x (y :: r))
theorem DP.ownB (h : DP w wr rd b T l dr E qb gs vL vC vB V rs ks W) : W.ownsRow 0 4 1 vB l.length (bls l) := by
 have h1 := (h.1.perm (rot3 _ _ _ _)).own
 unfold Rw.owned at h1
 dsimp only at h1
 rw [bls_len] at h1
 exact h1
/-- as it is read -/
theorem DP.view (h : DP w wr rd b T l dr E qb gs vL vC vB V rs ks W) (hT : T.length ≤ 65536) : ∃ aL dL aC dC, vL = .slice aL T.length dL ∧ vC = .slice aC T.length dC ∧ T.length ≤ dL ∧ T.length ≤ dC ∧ DPv b T qb aL dL aC dC vB E W := by
 have r := h.row
 have oL := h.ownL
 have oC := h.ownC
 obtain ⟨aL, dL, eL, hdL⟩ := own_slice oL
 obtain ⟨aC, dC, eC, hdC⟩ := own_slice oC
 subst eL eC
 refine ⟨aL, dL, aC, dC, rfl, rfl, hdL, hdC, ⟨lt_of_block r, by rw [cell_of_row _ _ _ _ _ _ r]; rfl, by rw [cell_of_row _ _ _ _ _ _ r]; rfl, by rw [cell_of_row _ _ _ _ _ _ r]; rfl, by rw [cell_of_row _ _ _ _ _ _ r]; rfl, by rw [cell_of_row _ _ _ _ _ _ r]; rfl, by rw [cell_of_row _ _ _ _ _ _ r]; rfl, by rw [cell_of_row _ _ _ _ _ _ r]; rfl, by rw [cell_of_row _ _ _ _ _ _ r]; rfl, by rw [cell_of_row _ _ _ _ _ _ r]; rfl, ?_, ?_⟩⟩
 ·have hl : (T.map (·.1)).length = T.length := List.length_map ..
  refine h.2.1.lls (base := 0) (d := dL) (by rw [hl]; exact oL) (by rw [hl]; omega) (fun p hp => h.1.has (List.mem_cons_of_mem _ (List.mem_append_left _ hp)))
 ·have hl : (T.map (·.2)).length = T.length := List.length_map ..
  refine ⟨by rw [hl]; omega, fun i hi => ?_⟩
  rw [hl] at hi
  rcases oC.2 with ⟨_, h0⟩ | ⟨g, cap, cur, hv, _, hg, _, _, _, _⟩
  ·omega
  ·injection hv with e1 e2 e3
   subst e1
   refine ⟨g, 0, rfl, lt_of_block hg, ?_⟩
   rw [Nat.zero_add, oC.cellAt i (by omega)]
   unfold chV
   rw [List.getElem?_map, List.getElem?_eq_getElem hi, List.getElem_map]
   rfl
/-- one of the rows has grown, and its place in the block is written over -/
theorem DP.putB (h : DP w wr rd b T l dr E qb gs vL vC vB V rs ks W) {W2 : World} {v' : Value} (m : Bits) (own : W2.ownsRow 0 4 1 v' (l.length + m.length) (bls l ++ bls m)) (hg : W.grownBy W2 vB.ownBlock) (hw : v'.ownBlock = vB.ownBlock ∨ v'.ownBlock = some W.heap.size) :
  DP w wr rd b T (l ++ m) dr E qb gs vL vC v' V rs ks (W2.setCell ⟨qb, 7, none⟩ v') := by
 have h1 := ((h.1.perm (rot3 _ _ _ _)).push (v' := v') (xs' := bls (l ++ m)) (by rw [bls_len, List.length_append, ← bls_append]; exact own) hg hw).perm (rot3 _ _ _ _).symm
 exact ⟨h1.store (j := 7) v' h.2.2, h.2⟩
end
end Go.Proofs.YtflnpcgnenhogaaGreatDoor.ls
namespace Go.Proofs.YtflnpcgnenhogaaGreatDoor.ls
open Go.RowKit Go.Proofs.YtflnpcgnenhogaaGreatDoor.own Go.Proofs.YtflnpcgnenhogaaGreatDoor.bit

set_option maxRecDepth 100000 in
set_option maxHeartbeats 3200000 in
theorem ddrain_any {w W : World} {wr : Option (Nat × Bits)} {rd : Option (Nat × ByteArray × Nat)} {b : Bp} {T : List Tk} {l : Bits} {dr E qb : Nat} {gs : List (Nat × Obj)} {vL vC vB : Value} {V : List Value} {rs : List Rw} {ks : List (Nat × Obj)}
  (h : DP w wr rd b T l dr E qb gs vL vC vB V rs ks W) (hdr : dr ≤ l.length) (hl : l.length ≤ 1073741824) :
  Calls Tryz.prog 42 #[.pointer (some ⟨qb, 0, none⟩)] W fun e w' => e = .returned (.string (txt (packN ((l.drop dr).take (8 * ((l.length - dr) / 8)))))) ∧ DP w wr rd b T l (dr + 8 * ((l.length - dr) / 8)) E qb gs vL vC vB V rs ks w' := by
 have H := Lib.hid h
 obtain ⟨q, hq⟩ : ∃ q, (l.length - dr) / 8 = q := ⟨_, rfl⟩
 rw [hq]
 have hqn : dr + 8 * q ≤ l.length := by omega
 have r0 := h.row
 have own := h.ownB
 have c7 : W.cell? ⟨qb, 7, none⟩ = some vB := by rw [cell_of_row _ _ _ _ _ _ r0]; rfl
 have c8 : W.cell? ⟨qb, 8, none⟩ = some (.int .i64 (dr : Int)) := by rw [cell_of_row _ _ _ _ _ _ r0]; rfl
 have TX : Hid (∀ W' a o cap, Below W.heap.size W W' → (∀ k (hk : k < ((l.drop dr).take (8 * q)).length), ∃ g, a = some ⟨g, o, none⟩ ∧ g < W.heap.size ∧ W.cell? ⟨g, o + k, none⟩ = some (.bool ((l.drop dr).take (8 * q))[k])) → Calls Tryz.prog 44 #[.slice a (8 * q) cap] W' fun e w' => e = .returned (.string (txt (packN ((l.drop dr).take (8 * q))))) ∧ Below W'.heap.size W' w') := Lib.hid (fun W' a o cap k hc => by
  have h1 := TextO_any W' a o cap ((l.drop dr).take (8 * q)) (by rw [List.length_take]; omega) (fun k' hk => by
   obtain ⟨g, e1, e2, e3⟩ := hc k' hk
   exact ⟨g, e1, Nat.lt_of_lt_of_le e2 k.size, (k.cell e2).trans e3⟩)
  rw [show ((l.drop dr).take (8 * q)).length = 8 * q from by rw [List.length_take, List.length_drop]; omega] at h1
  exact h1)
 have STO : Hid (∀ W', Below W.heap.size W W' → DP w wr rd b T l (dr + 8 * q) E qb gs vL vC vB V rs ks (W'.setCell ⟨qb, 8, none⟩ (.int .i64 ((dr + 8 * q : Nat) : Int)))) := Lib.hid (fun W' k => by
  have h1 := H.out.next k
  exact ⟨h1.1.store (j := 8) _ h1.2.2, h1.2⟩)
 have RC : Hid (∀ W', Below W.heap.size W W' → W'.cell? ⟨qb, 7, none⟩ = some vB ∧ W'.cell? ⟨qb, 8, none⟩ = some (.int .i64 (dr : Int)) ∧ W'.frozen? ⟨qb, 8, none⟩ = false ∧ Below W.heap.size W W') := Lib.hid (fun W' k => by
  have r := (H.out.next k).row
  exact ⟨by rw [cell_of_row _ _ _ _ _ _ r]; rfl, by rw [cell_of_row _ _ _ _ _ _ r]; rfl, frozen_of_row W' qb 8 _ _ r, k⟩)
 obtain ⟨tx, htx⟩ : ∃ z, txt (packN ((l.drop dr).take (8 * q))) = z := ⟨_, rfl⟩
 rw [htx] at TX ⊢
 obtain ⟨N, hN⟩ : ∃ z, l.length = z := ⟨_, rfl⟩
 have e1 : IntKind.i64.wrap ((N : Int) - (dr : Int)) = (N : Int) - (dr : Int) := IntWalk.i64_in _ (by omega)
 have e2 : ((N : Int) - (dr : Int)).tdiv 8 = (q : Int) := by rw [Int.tdiv_eq_ediv_of_nonneg (by omega)]; omega
 have e3 : IntKind.i64.wrap (q : Int) = (q : Int) := IntWalk.i64_in _ (by omega)
 have e4 : IntKind.i64.wrap ((q : Int) * 8) = 8 * (q : Int) := by rw [IntWalk.i64_in _ (by omega)]; omega
 obtain ⟨M, hM⟩ : ∃ z, dr + 8 * q = z := ⟨_, rfl⟩
 have e5 : IntKind.i64.wrap ((dr : Int) + 8 * (q : Int)) = (M : Int) := by rw [IntWalk.i64_in _ (by omega)]; omega
 have b1 : (0 : Int) ≤ (dr : Int) := by omega
 have b2 : (dr : Int) ≤ (M : Int) := by omega
 have h8 : 8 * q = M - dr := by omega
 have HM := Lib.hid hM
 have KX := Lib.hid (fun W' W2 (h : Below W.heap.size W W') (k : Below W'.heap.size W' W2) => h.trans (k.mono h.size))
 have HH := Lib.hid (And.intro hq (And.intro hqn hdr))
 rcases own.2 with ⟨hv, h0⟩ | ⟨g, cap, cur, hv, _, hg, hcap, _⟩
 ·subst hv
  obtain ⟨rfl, rfl⟩ : q = 0 ∧ dr = 0 := by omega
  obtain rfl : M = 0 := by omega
  have hN0 : N = 0 := by omega
  subst hN0
  have TX1 := Lib.hid (fun W' k => TX.out W' none 0 0 k (fun k hk => by rw [List.length_take] at hk; omega))
  have c8 : W.cell? ⟨qb, 8, none⟩ = some (.int .i64 0) := c8
  clear h r0 own hq hqn hdr htx TX h8 hM e1 e2 e3 e4 e5 b1 b2
  have b1 : (0 : Int) ≤ 0 := Int.le_refl _
  have b2 : (0 : Int) ≤ ((0 : Nat) : Int) := Int.le_refl _
  have e6 : IntKind.i64.wrap 0 = 0 := by decide
  have e7 : IntKind.i64.wrap (0 + 0) = 0 := by decide
  go_enter Tryz.func42, Tryz.ntmps42
  go_upto_region 1 with fail
  go_big_region
  have K0 : Below W.heap.size W W.drew := Below.drew (Below.refl _ _)
  go_upto_region 2 with fail
  go_region_held3 (fun W' => W'.cell? ⟨qb, 7, none⟩ = some (.slice none 0 0) ∧ W'.cell? ⟨qb, 8, none⟩ = some (.int .i64 0) ∧ W'.frozen? ⟨qb, 8, none⟩ = false ∧ Below W.heap.size W W')
   (first | exact RC.out _ (by assumption) | exact RC.out _ (Below.drew (by assumption)))
   (first | (go_at_call 44; (with_reducible refine (TX1.out _ (by first | assumption | exact Below.drew (by assumption))).mono ?_); rintro e w5 ⟨rfl, k5⟩; have k7 := (by first | exact KX.out _ _ (by assumption) k5 | exact KX.out _ _ (Below.drew (by assumption)) k5 : Below W.heap.size W w5)))
  obtain ⟨c7b, c8b, z8, -⟩ := RC.out w5 k7
  have D := STO.out w5 k7
  clear k5
  go_wp2_with fail
  refine bodyPost_ret (v := .string tx) (by simp [results, Tryz.results42, go_sem]) rfl ⟨rfl, ?_⟩
  exact D
 ·subst hv
  have TX1 := Lib.hid (fun W' k => TX.out W' (if cap = dr then some ⟨g, 0, none⟩ else some ⟨g, dr, none⟩) dr (cap - dr) k (fun k hk => ⟨g, if_neg (by rw [List.length_take, List.length_drop] at hk; omega), lt_of_block hg, by
   rw [List.length_take, List.length_drop] at hk
   rw [own.cellAt (dr + k) (by omega)]
   unfold bls
   rw [List.getElem?_map, List.getElem?_eq_getElem (by omega), List.getElem_take, List.getElem_drop]
   rfl⟩))
  rw [hN] at hcap
  rw [h8] at TX1
  have hcap2 : (M : Int) ≤ (cap : Int) := by omega
  have hcap3 : M ≤ cap := by omega
  have hdM : dr ≤ M := by omega
  obtain ⟨ao, hao⟩ : ∃ z, (if cap = dr then some (⟨g, 0, none⟩ : Addr) else some ⟨g, dr, none⟩) = z := ⟨_, rfl⟩
  rw [hao] at TX1
  clear h r0 own hq hqn hdr hg htx TX h8 hM
  go_enter Tryz.func42, Tryz.ntmps42
  go_upto_region 1 with fail
  go_big_region
  have K0 : Below W.heap.size W W.drew := Below.drew (Below.refl _ _)
  go_upto_region 2 with fail
  go_region_held3 (fun W' => W'.cell? ⟨qb, 7, none⟩ = some (.slice (some ⟨g, 0, none⟩) l.length cap) ∧ W'.cell? ⟨qb, 8, none⟩ = some (.int .i64 (dr : Int)) ∧ W'.frozen? ⟨qb, 8, none⟩ = false ∧ Below W.heap.size W W')
   (first | exact RC.out _ (by assumption) | exact RC.out _ (Below.drew (by assumption)))
   (first | (go_at_call 44; (with_reducible refine (TX1.out _ (by first | assumption | exact Below.drew (by assumption))).mono ?_); rintro e w5 ⟨rfl, k5⟩; have k7 := (by first | exact KX.out _ _ (by assumption) k5 | exact KX.out _ _ (Below.drew (by assumption)) k5 : Below W.heap.size W w5)))
  obtain ⟨c7b, c8b, z8, -⟩ := RC.out w5 k7
  have D := STO.out w5 k7
  rw [HM.out] at D
  clear k5
  go_wp2_with fail
  refine bodyPost_ret (v := .string tx) (by simp [results, Tryz.results42, go_sem]) rfl ⟨rfl, ?_⟩
  rw [HM.out]
  exact D
end Go.Proofs.YtflnpcgnenhogaaGreatDoor.ls
