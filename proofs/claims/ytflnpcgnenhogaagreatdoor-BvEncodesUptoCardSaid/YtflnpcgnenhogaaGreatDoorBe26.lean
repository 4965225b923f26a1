/- Own lemmas, laid together. -/
import Derived.Test.YtflnpcgnenhogaaGreatDoorBe25
import Derived.Test.YtflnpcgnenhogaaGreatDoorBe13
import Derived.Test.YtflnpcgnenhogaaGreatDoorBe24
import Derived.Deep.RegionHeld3
namespace Go.Proofs.YtflnpcgnenhogaaGreatDoor.ls
open Go.RowKit Go.Proofs.YtflnpcgnenhogaaGreatDoor.own Go.Proofs.YtflnpcgnenhogaaGreatDoor.bit

theorem rot4 {α : Type} (x y z u : α) (r : List α) : List.Perm (x :: y :: z :: u :: r) (u :: x :: y :: z :: r) := (List.Perm.cons x (rot3 y z u r)).trans (List.Perm.swap u x _)
section
variable {w W W2 : World} {wr : Option (Nat × Bits)} {rd : Option (Nat × ByteArray × Nat)} {b : Bp} {T : List Tk} {l : Bits} {dr E qb : Nat} {gs : List (Nat × Obj)} {vL vC vB va : Value} {V xs : List Value} {rs : List Rw} {ks : List (Nat × Obj)}
/-- a new packer, and the row of places -/
theorem DP.start (h : FS w wr rd ks W) (b : Bp) : DP w wr rd b [] [] 0 0 W.heap.size [] (.slice none 0 0) (.slice none 0 0) (.slice none 0 0) [] [⟨97, .slice (some ⟨W.heap.size + 1, 0, none⟩) 1 1, u64V [0]⟩] ks ((W.alloc (.cells (dpRow b (.slice none 0 0) (.slice none 0 0) (.slice none 0 0) 0 0) 87)).alloc (.cells #[.int .u64 0] 97)) := by
 have h0 : Rws w wr rd [] ks W := h
 have h1 := h0.add (dpRow b (.slice none 0 0) (.slice none 0 0) (.slice none 0 0) 0 0) 87
 obtain ⟨W1, hW1⟩ : ∃ z, W.alloc (.cells (dpRow b (.slice none 0 0) (.slice none 0 0) (.slice none 0 0) 0 0) 87) = z := ⟨_, rfl⟩
 have hz : W1.heap.size = W.heap.size + 1 := by rw [← hW1]; simp
 rw [hW1] at h1 ⊢
 have h2 := h1.fresh (v := .slice (some ⟨W1.heap.size, 0, none⟩) 1 1) (T := 97) (xs := u64V [0]) ((Below.refl _ _).alloc (Nat.le_refl W1.heap.size) (.cells #[.int .u64 0] 97)) ⟨rfl, .inr ⟨W1.heap.size, 1, _, rfl, Nat.le_refl _, heap_alloc_new W1 _, Nat.le_refl _, by decide, rfl, rfl⟩⟩
 rw [hz] at h2
 refine ⟨((h2.lift (T := 4)).lift (T := 3)).lift (T := 34), GRow.nil _, fun p hp => ?_⟩
 have := lt_of_block (h.row (b := p.1) (o := p.2) (by simpa using hp))
 omega
theorem DP.ownR (h : DP w wr rd b T l dr E qb gs vL vC vB V (⟨97, va, xs⟩ :: rs) ks W) : W.ownsRow 0 97 1 va xs.length xs := (h.1.perm (rot4 _ _ _ _ _)).own
theorem DP.pushR {v' : Value} {xs' : List Value} (h : DP w wr rd b T l dr E qb gs vL vC vB V (⟨97, va, xs⟩ :: rs) ks W) (own : W2.ownsRow 0 97 1 v' xs'.length xs') (hg : W.grownBy W2 va.ownBlock) (hw : v'.ownBlock = va.ownBlock ∨ v'.ownBlock = some W.heap.size) : DP w wr rd b T l dr E qb gs vL vC vB V (⟨97, v', xs'⟩ :: rs) ks W2 :=
 ⟨((h.1.perm (rot4 _ _ _ _ _)).push own hg hw).perm (rot4 _ _ _ _ _).symm, h.2⟩
/-- the places stand still from now on -/
theorem DP.close {A : List Nat} (h : DP w wr rd b T l dr E qb gs vL vC vB V [⟨97, va, u64V A⟩] ks W) (hz : A.length ≤ 4611686018427387903) : ∃ sa da ka, va = .slice sa A.length da ∧ A.length ≤ da ∧ StU ka sa A ∧ FS w wr rd (ka ++ ks) W := by
 obtain ⟨ka, h1, h2, h3⟩ := (h.1.perm (rot4 _ _ _ _ _)).still
 have f := h3.fs
 have own : W.ownsRow 0 97 1 va A.length (u64V A) := by
  have h4 := h2
  unfold Rw.owned at h4
  dsimp only at h4
  rw [show (u64V A).length = A.length from by unfold u64V; rw [List.length_map]] at h4
  exact h4
 obtain ⟨sa, da, e1, e2, e3⟩ := own_stU own h1.1 (fun p hp => f.row (b := p.1) (o := p.2) (List.mem_append_left _ hp)) hz
 refine ⟨sa, da, ka, e1, e2, e3, f.sub (fun p hp => ?_)⟩
 simp only [List.mem_append, List.mem_cons] at hp ⊢
 rcases hp with hp | hp
 ·exact .inl hp
 ·exact .inr (.inr (.inr hp))
end
/-- Encode's refusal -/
def DEncNo (w : World) (e : Ending) (w' : World) : Prop := e = .returned (.tuple #[.string ⟨#[]⟩, .slice none 0 0, .int .i64 1]) ∧ Below w.heap.size w w'
set_option maxRecDepth 100000 in
theorem bdenc_no (w : World) (win dep itv zet cap : Int) (a : Option Addr) (G : List (List Nat)) (d : Nat) (hA : LLs w a G) (hn : G.length ≤ 1000) (hls : ∀ l ∈ G, l.length < 35184372088832) (hno : ¬ (BpOk win dep itv zet cap ∧ GOk G)) :
  Calls Tryz.prog 24 #[.slice a G.length d, bpV win dep itv zet cap] w (DEncNo w) := by
 have CK := Lib.hid (fun W' => dbcheck_any win dep itv zet cap W')
 have GR := Lib.hid (fun W' (k : Below w.heap.size w W') => dgraph_all W' a G d (hA.below k) hn hls)
 obtain ⟨n, hnn⟩ : ∃ z, G.length = z := ⟨_, rfl⟩
 rw [hnn] at GR ⊢
 clear hA hls hnn
 unfold bpV at CK ⊢
 go_enter Tryz.func24, Tryz.ntmps24
 go_wp2_with fail
 have k1 : Below w.heap.size w (w.alloc (.cells #[.int .i64 win, .int .i64 dep, .int .i64 itv, .int .i64 zet, .int .i64 cap] 56)) := (Below.refl _ _).alloc (Nat.le_refl _) _
 with_reducible refine (CK.out _).mono ?_
 rintro e w2 ⟨rfl, k2⟩
 have K2 := Lib.hid (k1.trans (k2.mono k1.size))
 clear k1 k2
 by_cases hb : BpOk win dep itv zet cap
 ·rw [if_pos hb]
  have hg : ¬ GOk G := fun h => hno ⟨hb, h⟩
  have GA := Lib.hid (GR.out w2 K2.out)
  go_wp2_with fail
  with_reducible refine GA.out.mono ?_
  rintro e w3 ⟨b1, rfl, hb1, k3⟩
  cases b1 with
  | true => exact absurd (hb1.1 rfl) hg
  | false =>
   have K3 := Lib.hid (K2.out.trans (k3.mono K2.out.size))
   clear hb1 k3
   go_wp2_with fail
   exact bodyPost_ret (v := .tuple #[.string ⟨#[]⟩, .slice none 0 0, .int .i64 1]) (by simp [results, Tryz.results24, go_sem]) rfl ⟨rfl, K3.out⟩
 ·rw [if_neg hb]
  go_wp2_with fail
  exact bodyPost_ret (v := .tuple #[.string ⟨#[]⟩, .slice none 0 0, .int .i64 1]) (by simp [results, Tryz.results24, go_sem]) rfl ⟨rfl, K2.out⟩
set_option maxRecDepth 100000 in
set_option maxHeartbeats 6400000 in
theorem bdenc_yes {w W : World} {wr : Option (Nat × Bits)} {rd : Option (Nat × ByteArray × Nat)} {ks : List (Nat × Obj)} (b : Bp) (a : Option Addr) (G : List (List Nat)) (d : Nat) (h : FS w wr rd ks W) (hb : BpOk (b.p.win : Int) (b.depth : Int) (b.p.itv : Int) (b.p.zet : Int) (b.cap : Int)) (hbp : b.p.ok) (hA : LLs w a G) (hG : GOk G) (hn : G.length ≤ 1000) (hls : ∀ l ∈ G, l.length < 35184372088832) :
  Calls Tryz.prog 24 #[.slice a G.length d, bpV (b.p.win : Int) (b.depth : Int) (b.p.itv : Int) (b.p.zet : Int) (b.cap : Int)] W fun e w' => ∃ sa da ka, e = .returned (.tuple #[.string (txt (packN (stB b G).2)), .slice sa (G.length + 1) da, .int .i64 0]) ∧ FS w wr rd (ka ++ ks) w' ∧ G.length + 1 ≤ da ∧ StU ka sa (atB b G (G.length + 1)) := by
 obtain ⟨j0, hj, hj0, hj1, hj2⟩ := info_parts Tryz.infoU64
 have hdp : b.depth ≤ 16 := by have := hb.2.2.1; omega
 have CK := Lib.hid (fun W' => dbcheck_any (b.p.win : Int) (b.depth : Int) (b.p.itv : Int) (b.p.zet : Int) (b.cap : Int) W')
 rw [if_pos hb] at CK
 obtain ⟨hr, hv⟩ := hG.ris
 have HR := Lib.hid hr
 have HE := Lib.hid (fun i => Nat.le_trans (edges_take_le G i) hG.2.2)
 have HSL := Lib.hid (fun i (hi : i ≤ G.length) => stB_len hbp G hr hG.2.1 i hi)
 have GR := Lib.hid (fun W' (k : Below w.heap.size w W') => dgraph_all W' a G d (hA.below k) hn hls)
 have HGO := Lib.hid hG
 have HA := Lib.hid hA
 have H := Lib.hid h
 obtain ⟨n, hnn⟩ : ∃ z, G.length = z := ⟨_, rfl⟩
 have HN := Lib.hid hnn
 rw [hnn] at GR hn ⊢
 clear hA hls hnn hG hr hv hb h
 unfold bpV at CK ⊢
 go_enter Tryz.func24, Tryz.ntmps24
 go_wp2_with fail
 have F1 := H.out.add #[.int .i64 (b.p.win : Int), .int .i64 (b.depth : Int), .int .i64 (b.p.itv : Int), .int .i64 (b.p.zet : Int), .int .i64 (b.cap : Int)] 56
 obtain ⟨pb, hpb⟩ : ∃ z, W.heap.size = z := ⟨_, rfl⟩
 rw [hpb] at F1
 with_reducible refine (CK.out _).mono ?_
 rintro e w2 ⟨rfl, k2⟩
 have F2 := Lib.hid (F1.next k2)
 have GA := Lib.hid (GR.out w2 F2.out.below)
 clear F1 k2 GR CK
 go_wp2_with fail
 with_reducible refine GA.out.mono ?_
 rintro e w3 ⟨b1, rfl, hb1, k3⟩
 obtain rfl := hb1.2 HGO.out
 have F3 := Lib.hid (F2.out.next k3)
 have e2 := F3.out.row (List.mem_cons_self ..)
 have p0 : w3.cell? ⟨pb, 0, none⟩ = some (.int .i64 (b.p.win : Int)) := by rw [cell_of_row _ _ _ _ _ _ e2]; rfl
 have p1 : w3.cell? ⟨pb, 1, none⟩ = some (.int .i64 (b.depth : Int)) := by rw [cell_of_row _ _ _ _ _ _ e2]; rfl
 have p2 : w3.cell? ⟨pb, 2, none⟩ = some (.int .i64 (b.p.itv : Int)) := by rw [cell_of_row _ _ _ _ _ _ e2]; rfl
 have p3 : w3.cell? ⟨pb, 3, none⟩ = some (.int .i64 (b.p.zet : Int)) := by rw [cell_of_row _ _ _ _ _ _ e2]; rfl
 have p4 : w3.cell? ⟨pb, 4, none⟩ = some (.int .i64 (b.cap : Int)) := by rw [cell_of_row _ _ _ _ _ _ e2]; rfl
 have D0 := Lib.hid (DP.start (F3.out.sub (fun p hp => List.mem_cons_of_mem _ hp)) b)
 unfold dpRow at D0
 clear e2 hb1 k3 GA F2
 go_upto_region 5 with fail
 obtain ⟨qb, hqb⟩ : ∃ z, w3.heap.size = z := ⟨_, rfl⟩
 rw [hqb] at D0 ⊢
 generalize hW4 : World.alloc (World.alloc w3 _) _ = w4 at D0 ⊢
 obtain ⟨v0, hv0⟩ : ∃ v, Value.slice (some ⟨qb + 1, 0, none⟩) 1 1 = v := ⟨_, rfl⟩
 rw [hv0] at D0 ⊢
 have D1 : Hid (DP w wr rd b [] [] 0 0 qb [] (.slice none 0 0) (.slice none 0 0) (.slice none 0 0) [] [⟨97, v0, u64V [0]⟩] ks w4) := Lib.hid (by
  have h := D0.out
  unfold DP dpRow at h ⊢
  exact h)
 clear D0 F3 p0 p1 p2 p3 p4 hpb hqb hW4 hv0 H
 go_wp2_with fail
 go_loopw [8, 9] (fun v8 v9 wr' => ∃ (i : Nat) (gs : List (Nat × Obj)) (vL vC vB : Value) (V : List Value), v9 = .int .i64 (i : Int) ∧ i ≤ n ∧ DP w wr rd b (stB b (G.take i)).1 (stB b (G.take i)).2 0 (edges (G.take i)) qb gs vL vC vB V [⟨97, v8, u64V (atB b G (i + 1))⟩] ks wr') (fun _ v9 _ => n - (intOf v9).toNat)
 case atStart => exact ⟨0, [], _, _, _, _, rfl, Nat.zero_le _, by rw [List.take_zero]; exact D1.out⟩
 case round =>
  obtain ⟨i, gs, vL, vC, vB, V, rfl, hi, hD⟩ := hrel
  rename World => w5
  have D5 := Lib.hid hD
  obtain ⟨s8, c8, e8⟩ := own_shape hD.ownR
  rw [show (u64V (atB b G (i + 1))).length = i + 1 from by unfold u64V atB; rw [List.length_map, List.length_map, List.length_range]] at e8
  subst e8
  clear hD D1
  by_cases hlt : i < n
  ·have hiG : i < G.length := by rw [HN.out]; exact hlt
   have i1 : decide ((i : Int) < (n : Int)) = true := decide_eq_true (by omega)
   obtain ⟨g, o, s, dd, rfl, hg, hcl, hd, hLV⟩ := HA.out.2 i hiG
   have hcl : w5.cell? ⟨g, o + i, none⟩ = some (.slice s G[i].length dd) := (D5.out.below.cell hg).trans hcl
   have hri := HR.out _ (List.getElem_mem hiG)
   obtain ⟨_, _, e2⟩ := stB_at b G i hiG
   have hTl : (stB b (G.take i)).1.length = i := by rw [stB_length, List.length_take]; omega
   have hTO : TOk (stB b (G.take i)).1 := stB_ok b _ (fun l hl => HR.out l (List.mem_of_mem_take hl))
   have hES : edges (G.take (i + 1)) = edges (G.take i) + G[i].length := by rw [List.take_succ_eq_append_getElem hiG, edges_snoc]
   have hE1 := HE.out (i + 1)
   have hl1 := HSL.out (i + 1) (by omega)
   rw [e2] at hl1
   have hl2 : (stB b (G.take i)).2.length + (addB b (stB b (G.take i)).1 G[i]).length ≤ 1000000000 := by
    have : ((stB b (G.take i)).2 ++ addB b (stB b (G.take i)).1 G[i]).length ≤ 120 * (i + 1) + 80 * edges (G.take (i + 1)) := hl1
    rw [List.length_append] at this
    omega
   have AD := Lib.hid (dadd_yes D5.out hbp hdp (by omega) hTO s G[i] dd hd hri hLV (by omega) hl2)
   have HE2 : Hid ((stB b (G.take (i + 1))) = runB b (stB b (G.take i)) G[i] ∧ edges (G.take (i + 1)) = edges (G.take i) + G[i].length) := Lib.hid ⟨e2, hES⟩
   obtain ⟨l, hl⟩ : ∃ l, G[i] = l := ⟨_, rfl⟩
   rw [hl] at AD HE2 hcl hl2
   obtain ⟨m, hm⟩ : ∃ m, l.length = m := ⟨_, rfl⟩
   have HM := Lib.hid hm
   rw [hm] at hcl AD
   obtain ⟨T, hT⟩ : ∃ T, stB b (G.take i) = T := ⟨_, rfl⟩
   rw [hT] at AD HE2 hl2
   clear e2 hd hLV hri hTl hTO hES hE1 hl1 hl hm hT
   go_wp2_with fail
   with_reducible refine AD.out.mono ?_
   rintro e w6 ⟨rfl, gs6, vL6, vC6, vB6, V6, hD6⟩
   have D6 := Lib.hid hD6
   obtain ⟨sB, cB, eB⟩ := own_shape hD6.ownB
   obtain ⟨lb, hlb⟩ : ∃ z, (T.2 ++ addB b T.1 l).length = z := ⟨_, rfl⟩
   have HLB := Lib.hid hlb
   have hlb9 : lb ≤ 1000000000 := by rw [← hlb, List.length_append]; exact hl2
   rw [hlb] at eB
   subst eB
   obtain ⟨-, -, c7, -, -⟩ := row_cells hD6.row
   have uw : IntKind.u64.wrap (lb : Int) = (lb : Int) := IntWalk.u64_in _ (by omega)
   have C3 : Hid (i + 1 + 1 ≤ maxLen) := Lib.hid (by simp only [maxLen]; omega)
   have C4 : Hid ((i + 1 + 1) * 8 ≤ 140737488355328) := Lib.hid (by omega)
   have UL : Hid ((u64V (atB b G (i + 1))).length = i + 1) := Lib.hid (by unfold u64V atB; rw [List.length_map, List.length_map, List.length_range])
   have OA : Hid ((w6.alloc (.cells #[.int .u64 (lb : Int)] 97)).ownsRow 0 97 1 (.slice s8 (i + 1) c8) (i + 1) (u64V (atB b G (i + 1)))) := Lib.hid (by
    have h := hD6.ownR.alloc (.cells #[.int .u64 (lb : Int)] 97)
    rw [UL.out] at h
    exact h)
   have AT : Hid (atB b G (i + 1 + 1) = atB b G (i + 1) ++ [lb]) := Lib.hid (by rw [atB_succ, HE2.out.1]; show _ ++ [(T.2 ++ addB b T.1 l).length] = _; rw [HLB.out])
   clear hD6 AD hlb D5 hl2
   go_wp2_with (at_builtin; refine wpList_append_at _ rfl _ _ 58 rfl 0 97 j0 _ 1 8 Tryz.underlying58 hj hj0 hj1 hj2 rfl (by decide) _ (i + 1) _ rfl OA.out ⟨w6.heap.size, 0, none⟩ 1 1 [.int .u64 (lb : Int)] rfl rfl (cell_one_new _ _ _) (fun u hu => by simp at hu; subst hu; rfl) C3.out C4.out (Nat.zero_le _) (by decide) ?_)
   intro v7 w7 own7 hg7 hw7
   have D7 := Lib.hid ((D6.out.next ((Below.refl _ _).alloc (Nat.le_refl w6.heap.size) (.cells #[.int .u64 (lb : Int)] 97))).pushR (v' := v7) (xs' := u64V (atB b G (i + 1)) ++ [.int .u64 (lb : Int)]) (by rw [List.length_append, UL.out]; exact own7) hg7 (by simpa using hw7))
   clear own7 hg7 hw7 OA D6 c7 uw
   go_wp2_with fail
   go_roundw
   case rel => exact ⟨i + 1, gs6, vL6, vC6, _, V6, by go_num, by omega, by
    rw [AT.out, HE2.out.1, HE2.out.2, u64V_append]
    exact D7.out⟩
   case measure => simp [intOf]; omega
  ·have hin : i = n := by omega
   have i1 : decide ((i : Int) < (n : Int)) = false := decide_eq_false (by omega)
   have TG : Hid (G.take i = G) := Lib.hid (List.take_of_length_le (by rw [HN.out]; omega))
   have HIN := Lib.hid hin
   rw [TG.out] at D5
   obtain ⟨sB, cB, eB⟩ := own_shape D5.out.ownB
   obtain ⟨-, -, c7, -, -⟩ := row_cells D5.out.row
   have hbl := HSL.out G.length (Nat.le_refl _)
   have hE9 := HE.out G.length
   rw [List.take_length] at hbl hE9
   have TX := Lib.hid (Text_any w5 0 vB (stB b G).2 (by have := HN.out; omega) D5.out.ownB)
   obtain ⟨bits, hbits⟩ : ∃ z, (stB b G).2 = z := ⟨_, rfl⟩
   rw [hbits] at eB TX D5
   subst eB
   clear hbl hE9 hin
   go_wp2_with fail
   with_reducible refine TX.out.mono ?_
   rintro e w8 ⟨rfl, k8⟩
   have D8 := Lib.hid (D5.out.next k8)
   obtain ⟨tx, htx⟩ : ∃ z, txt (packN bits) = z := ⟨_, rfl⟩
   have HTX := Lib.hid htx
   rw [htx]
   clear k8 TX D5 c7 htx
   have FIN : Hid (∃ sa da ka, Ending.returned (.tuple #[.string tx, .slice s8 (i + 1) c8, .int .i64 0]) = .returned (.tuple #[.string (txt (packN (stB b G).2)), .slice sa (n + 1) da, .int .i64 0]) ∧ FS w wr rd (ka ++ ks) w8 ∧ n + 1 ≤ da ∧ StU ka sa (atB b G (n + 1))) := Lib.hid (by
    have hal : (atB b G (i + 1)).length = i + 1 := by unfold atB; rw [List.length_map, List.length_range]
    obtain ⟨sa, da, ka, e1, e2, e3, e4⟩ := D8.out.close (by rw [hal]; omega)
    rw [hal] at e1 e2
    rw [HIN.out] at e1 e2 e3 ⊢
    refine ⟨sa, da, ka, ?_, e4, e2, e3⟩
    rw [hbits, HTX.out, e1])
   go_wp2_with fail
   exact bodyPost_ret (v := .tuple #[.string tx, .slice s8 (i + 1) c8, .int .i64 0]) (by simp [results, Tryz.results24, go_sem]) rfl FIN.out
end Go.Proofs.YtflnpcgnenhogaaGreatDoor.ls
namespace Go.Proofs.YtflnpcgnenhogaaGreatDoor.ls
open Go.RowKit Go.Proofs.YtflnpcgnenhogaaGreatDoor.own Go.Proofs.YtflnpcgnenhogaaGreatDoor.bit

/-- append of one cell, inside a drawn region -/
theorem wp_append_cell {P : Program} (w : World) {o : Oper} {a : Act} {K : Act → World → Prop} {Q : Exit → Act → World → Prop} {c : Bool} {E : Prop} (hc : c = true) (s x : Operand) (t : TypeId)
  (ho : o.op = .call { callee := .builtin .append, args := #[s, x], argTypes := #[t, t] })
  (base : Nat) (e : TypeId) (i : TypeInfo) (z : Value) (bytes : Nat) (ht : P.underlying t = some (.slice e)) (hi : P.info? e = some i) (hz : i.zero = some z)
  (hsize : i.size = 1) (hby : i.bytes = bytes) (hzs : z.cells.size = 1)
  (v : Value) (n : Nat) (xs : List Value) (hs : a.eval s = v) (hown : w.ownsRow base e 1 v n xs) (g k cc : Nat) (u : Value) (hx : a.eval x = .slice (some ⟨g, k, none⟩) 1 cc) (hu : w.cell? ⟨g, k, none⟩ = some u) (h1 : u.oneCell' = true)
  (h63 : n + 1 ≤ maxLen) (hbytes : (n + 1) * bytes ≤ 140737488355328) (hbase : base ≤ w.heap.size)
  (h : ∀ v' w', w'.ownsRow base e 1 v' (n + 1) (xs ++ [u]) → w.grownBy w' v.ownBlock → (v'.ownBlock = v.ownBlock ∨ v'.ownBlock = some w.heap.size) → K (a.put o.dst v') w') :
  if c = true then Oper.wp P o a w K Q else E := by
 rw [if_pos hc]
 have hcl : ∀ (j : Nat) (u' : Value), [u][j]? = some u' → w.cell? (Addr.add ⟨g, k, none⟩ j) = some u' := fun j u' hj => by
  cases j with
  | zero =>
   injection hj with hj
   subst hj
   rw [Addr.add_lit]
   exact hu
  | succ j => simp at hj
 have h1' : ∀ y ∈ [u], y.oneCell' = true := fun y hy => by rw [List.mem_singleton.1 hy]; exact h1
 obtain ⟨v', w', hr, h2, h3, _⟩ := run_append_own (P := P) w base t o.type e i z 1 bytes ht hi hz hsize hby hzs (by decide) v n xs hown ⟨g, k, none⟩ 1 cc [u] rfl hcl h1' h63 hbytes hbase
 have h4 := append_where w base t o.type e i z 1 bytes ht hi hz hsize hby v n xs hown ⟨g, k, none⟩ 1 cc [u] rfl hcl h1' h63 hbytes (by decide) hr
 unfold Oper.wp execOp
 simp only [ho, resolve, invoke, builtin, Sem.run_bind, Sem.run_pure, Result.andThen_ok, List.map_toArray, List.map_cons, List.map_nil, hs, hx, hr]
 exact h v' w' h2 h3 h4
theorem cell_new (w : World) (u : Value) (T : TypeId) : (w.alloc (.cells #[u] T)).cell? ⟨w.heap.size, 0, none⟩ = some u := by rw [cell_of_row _ _ _ _ _ _ (heap_alloc_new w (.cells #[u] T))]; rfl
theorem own_ex {w : World} {base : Nat} {T : TypeId} {v : Value} {n : Nat} {xs : List Value} (h : w.ownsRow base T 1 v n xs) (h0 : 0 < n) : ∃ g cap cur, v = .slice (some ⟨g, 0, none⟩) n cap ∧ base ≤ g ∧ w.heap[g]? = some (.cells cur T (0, 0)) ∧ n ≤ cap ∧ cap ≤ maxLen ∧ cap ≤ cur.size ∧ cur.toList.take n = xs := by
 rcases h.2 with ⟨_, e⟩ | ⟨g, cap, cur, e, hb, hg, hn, hc, hs, ht⟩
 ·omega
 ·exact ⟨g, cap, cur, e, hb, hg, hn, hc, by omega, by rw [Nat.mul_one] at ht; exact ht⟩
/-- the lists' copies, a mark behind each -/
def MkRow (ks : List (Nat × Obj)) (V : List Value) (G : List (List Nat)) : Prop :=
 V.length = G.length ∧ ∀ i (h : i < G.length), ∃ g c cur, V[i]? = some (.slice (some ⟨g, 0, none⟩) G[i].length c) ∧ (g, .cells cur 77 (0, 0)) ∈ ks ∧ Lent G[i] g c cur
theorem MkRow.nil (ks : List (Nat × Obj)) : MkRow ks [] [] := ⟨rfl, fun i h => by cases h⟩
theorem MkRow.snoc {ks ks' : List (Nat × Obj)} {V : List Value} {G : List (List Nat)} (h : MkRow ks V G) (hs : ∀ p ∈ ks, p ∈ ks') {l : List Nat} {g c : Nat} {cur : Array Value} (hg : (g, .cells cur 77 (0, 0)) ∈ ks') (hl : Lent l g c cur) : MkRow ks' (V ++ [.slice (some ⟨g, 0, none⟩) l.length c]) (G ++ [l]) := by
 refine ⟨by rw [List.length_append, List.length_append, h.1]; rfl, fun i hi => ?_⟩
 rw [List.length_append, List.length_singleton] at hi
 by_cases hlt : i < G.length
 ·obtain ⟨g', c', cur', h1, h2, h3⟩ := h.2 i hlt
  rw [List.getElem?_append_left (by rw [h.1]; exact hlt), List.getElem_append_left hlt]
  exact ⟨g', c', cur', h1, hs _ h2, h3⟩
 ·obtain rfl : i = G.length := by omega
  refine ⟨g, c, cur, ?_, hg, ?_⟩
  ·rw [List.getElem?_append_right (by rw [h.1]; exact Nat.le_refl _), h.1, Nat.sub_self, List.getElem_append_right (Nat.le_refl _)]; simp
  ·rw [List.getElem_append_right (Nat.le_refl _)]; simpa using hl
/-- what lent answers -/
def LentG (w : World) (G : List (List Nat)) (e : Ending) (w' : World) : Prop :=
 ∃ v V ks, e = .returned v ∧ Rws w none none [⟨34, v, V⟩] ks w' ∧ MkRow ks V G
set_option maxRecDepth 100000 in
set_option maxHeartbeats 12800000 in
theorem lent_all (w : World) (a : Option Addr) (G : List (List Nat)) (cap : Nat) (hA : LLs w a G) (hn : G.length ≤ 1000) (hls : ∀ l ∈ G, l.length < 35184372088832) :
    Calls Tryz.prog 21 #[.slice a G.length cap] w (LentG w G) := by
  obtain ⟨j0, hj, hj0, hj1, hj2⟩ := info_parts Tryz.infoU32
  obtain ⟨g0, hg, hg0, hg1, hg2⟩ := info_parts Tryz.infoU32s
  have HA := Lib.hid hA
  have HLS := Lib.hid hls
  obtain ⟨n, hnn⟩ : ∃ z, G.length = z := ⟨_, rfl⟩
  have HN := Lib.hid hnn
  rw [hnn] at hn ⊢
  clear hA hls hnn
  go_enter Tryz.func21, Tryz.ntmps21
  go_wp2_with fail
  go_loopw [3, 4] (fun v3 v4 wr => ∃ (i : Nat) (V : List Value) (ks : List (Nat × Obj)), v4 = .int .i64 (i : Int) ∧ i ≤ n ∧ Rws w none none [⟨34, v3, V⟩] ks wr ∧ MkRow ks V (G.take i)) (fun _ v4 _ => n - (intOf v4).toNat)
  case atStart =>
    have h0 : Rws w none none [] [] w := FS.start w
    exact ⟨0, [], [], rfl, Nat.zero_le _, h0.lift, by rw [List.take_zero]; exact MkRow.nil _⟩
  case round =>
    obtain ⟨i, V, ks, rfl, hi, hR, hM⟩ := hrel
    rename World => w5
    have R5 := Lib.hid hR
    have M5 := Lib.hid hM
    have hV : V.length = i := by rw [hM.1, List.length_take, HN.out]; omega
    have HV := Lib.hid hV
    have o3 := hR.own
    unfold Rw.owned at o3
    dsimp only at o3
    rw [hV] at o3
    obtain ⟨s3, c3, e3⟩ := own_shape o3
    subst e3
    clear hR hM hV o3
    by_cases hlt : i < n
    · have hiG : i < G.length := by rw [HN.out]; exact hlt
      have i1 : decide ((i : Int) < (n : Int)) = true := decide_eq_true (by omega)
      obtain ⟨g, o, s, d, rfl, hgl, hcl, hd, hLV⟩ := HA.out.2 i hiG
      have hm9 := HLS.out _ (List.getElem_mem hiG)
      have TK : Hid (G.take (i + 1) = G.take i ++ [G[i]]) := Lib.hid (List.take_succ_eq_append_getElem hiG)
      obtain ⟨l, hl⟩ : ∃ l, G[i] = l := ⟨_, rfl⟩
      rw [hl] at hcl hd hLV hm9 TK
      have hclw := hcl
      have hcl : w5.cell? ⟨g, o + i, none⟩ = some (.slice s l.length d) := (R5.out.below.cell hgl).trans hcl
      have hg5 := World.block_lt_of_cell? _ _ hcl
      have HLV := Lib.hid (fun W (k : Below w.heap.size w W) => hLV.below k)
      obtain ⟨m, hm⟩ : ∃ z, l.length = z := ⟨_, rfl⟩
      have HM := Lib.hid hm
      rw [hm] at hcl hclw hd hm9
      clear hl hm hLV
      have CC : Hid (∀ W, Below w5.heap.size w5 W → W.cell? ⟨g, o + i, none⟩ = some (.slice s m d)) := Lib.hid (fun W k => (k.cell hg5).trans hcl)
      have CW : Hid (∀ W, Below w.heap.size w W → W.cell? ⟨g, o + i, none⟩ = some (.slice s m d)) := Lib.hid (fun W k => (k.cell hgl).trans hclw)
      have LVW := Lib.hid (fun W (k : Below w5.heap.size w5 W) => HLV.out W (R5.out.below.trans (k.mono R5.out.below.size)))
      have B0 := Below.refl w5.heap.size w5
      have BA := Lib.hid (fun W o (k : Below w5.heap.size w5 W) => k.alloc k.size o)
      have O1a : Hid ((w5.alloc (.cells #[] 77)).drew.ownsRow w5.heap.size 77 1 (.slice (some ⟨w5.heap.size, 0, none⟩) 0 0) 0 []) := Lib.hid ⟨rfl, .inr ⟨w5.heap.size, 0, _, rfl, Nat.le_refl _, heap_alloc_new w5 _, Nat.le_refl _, by decide, rfl, rfl⟩⟩
      have O1b : Hid (((w5.alloc (.cells #[] 77)).alloc (.cells #[.int .u32 77] 77)).drew.ownsRow w5.heap.size 77 1 (.slice (some ⟨w5.heap.size, 0, none⟩) 0 0) 0 []) := Lib.hid ((show (w5.alloc (.cells #[] 77)).ownsRow w5.heap.size 77 1 (.slice (some ⟨w5.heap.size, 0, none⟩) 0 0) 0 [] from O1a.out).alloc _)
      have O1c : Hid (((w5.alloc (.cells #[.int .u32 77] 77)).alloc (.cells #[] 77)).drew.ownsRow w5.heap.size 77 1 (.slice (some ⟨w5.heap.size + 1, 0, none⟩) 0 0) 0 []) := Lib.hid ⟨rfl, .inr ⟨w5.heap.size + 1, 0, _, rfl, Nat.le_succ _, by
        have h := heap_alloc_new (w5.alloc (.cells #[.int .u32 77] 77)) (.cells #[] 77)
        have e : (w5.alloc (.cells #[.int .u32 77] 77)).heap.size = w5.heap.size + 1 := by simp
        rw [e] at h
        exact h, Nat.le_refl _, by decide, rfl, rfl⟩⟩
      have HLT : Hid (∀ u ∈ l, u < 4294967296) := Lib.hid (fun u hu => by
        obtain ⟨k, hk, rfl⟩ := List.mem_iff_getElem.1 hu
        obtain ⟨_, _, _, _, h⟩ := (LVW.out w5 B0).cellAt k hk
        exact h)
      have K77b : Hid (∀ W row, ((w5.alloc (.cells #[] 77)).alloc (.cells #[.int .u32 77] 77)).drew.grownBy W (Value.ownBlock (.slice (some ⟨w5.heap.size, 0, none⟩) 0 row)) → W.cell? ⟨w5.heap.size + 1, 0, none⟩ = some (.int .u32 77)) := Lib.hid (fun W row hg => by
        have e : (w5.alloc (.cells #[] 77)).heap.size = w5.heap.size + 1 := by simp
        have h := heap_alloc_new (w5.alloc (.cells #[] 77)) (.cells #[.int .u32 77] 77)
        rw [e] at h
        have h2 := (hg.block (w5.heap.size + 1) (lt_of_block h) (fun e => by injection e with e; have e : w5.heap.size + 1 = w5.heap.size := e; omega)).trans h
        rw [cell_of_row _ _ _ _ _ _ h2]
        rfl)
      have K77c : Hid (∀ W row, ((w5.alloc (.cells #[.int .u32 77] 77)).alloc (.cells #[] 77)).drew.grownBy W (Value.ownBlock (.slice (some ⟨w5.heap.size + 1, 0, none⟩) 0 row)) → W.cell? ⟨w5.heap.size, 0, none⟩ = some (.int .u32 77)) := Lib.hid (fun W row hg => by
        have h := heap_alloc_new w5 (.cells #[.int .u32 77] 77)
        have h1 := (heap_alloc_old (w5.alloc (.cells #[.int .u32 77] 77)) (.cells #[] 77) (lt_of_block h)).trans h
        have h2 := (hg.block w5.heap.size (lt_of_block h1) (fun e => by injection e with e; have e : w5.heap.size = w5.heap.size + 1 := e; omega)).trans h1
        rw [cell_of_row _ _ _ _ _ _ h2]
        rfl)
      have C3 : Hid (0 + m ≤ maxLen) := Lib.hid (by simp only [maxLen]; omega)
      have C4 : Hid ((0 + m) * 4 ≤ 140737488355328) := Lib.hid (by omega)
      have C5 : Hid (m + 1 ≤ maxLen) := Lib.hid (by simp only [maxLen]; omega)
      have C6 : Hid ((m + 1) * 4 ≤ 140737488355328) := Lib.hid (by omega)
      have C7 : Hid (i + 1 ≤ maxLen) := Lib.hid (by simp only [maxLen]; omega)
      have C8 : Hid ((i + 1) * 24 ≤ 140737488355328) := Lib.hid (by omega)
      go_upto_region 5 with fail
      go_region_held3 (fun W => W.cell? ⟨g, o + i, none⟩ = some (.slice s m d))
        (first | exact CW.out _ R27.out.below | exact CC.out _ (by repeat (first | assumption | exact B0 | apply BA.out | apply Below.drew)))
        (first
          | (refine wp_append_lv _ (by rfl) (.tmp 12) (.tmp 16) 34 rfl w5.heap.size 77 j0 _ 4 Tryz.underlying34 hj hj0 hj1 hj2 rfl _ 0 [] rfl (by first | exact O1a.out | exact O1b.out | exact O1c.out) s m d l rfl HM.out (LVW.out _ (by repeat (first | assumption | exact B0 | apply BA.out | apply Below.drew))) C3.out C4.out (by first | (simp; done) | (simp; omega)) ?_
             intro v17 w17 own17 hg17 hw17
             rw [Nat.zero_add] at own17
             have b17 : Below w5.heap.size w5 w17 := Below.grown (by repeat (first | assumption | exact B0 | apply BA.out | apply Below.drew)) hg17 (by first | (simp; done) | (simp; omega)) (fun k hk => by first | exact (O1a.out.lt k hk).1 | exact (O1b.out.lt k hk).1 | exact (O1c.out.lt k hk).1)
             have OW17 : Hid (w17.ownsRow w5.heap.size 77 1 v17 m (u32V l)) := Lib.hid own17
             first
               | (have c77 : w17.cell? ⟨w5.heap.size + 1, 0, none⟩ = some (.int .u32 77) := K77b.out w17 _ hg17)
               | (have c77 : w17.cell? ⟨w5.heap.size, 0, none⟩ = some (.int .u32 77) := K77c.out w17 _ hg17)
               | skip
             obtain ⟨a17, cap17, rfl⟩ := own_shape own17
             clear own17 hg17 hw17)
          | (refine wp_append_cell _ (by rfl) (.tmp 17) (.tmp 18) 34 rfl w5.heap.size 77 j0 _ 4 Tryz.underlying34 hj hj0 hj1 hj2 rfl _ m (u32V l) rfl (by first | exact OW17.out | exact OW17.out.alloc _) _ 0 1 (.int .u32 77) rfl (by first | exact c77 | exact cell_new _ _ _) rfl C5.out C6.out (by first | exact b17.size | exact (BA.out _ _ b17).size) ?_
             intro v19 w19 own19 hg19 hw19
             have b19 : Below w5.heap.size w5 w19 := Below.grown (by repeat (first | assumption | exact B0 | apply BA.out | apply Below.drew)) hg19 (by first | exact b17.size | exact (BA.out _ _ b17).size) (fun k hk => (OW17.out.lt k hk).1)
             obtain ⟨g19, cap19, cur19, rfl, hb19, hr19, hn19, hc19, hs19, ht19⟩ := own_ex own19 (Nat.succ_pos _)
             have LN : Hid (Lent l g19 cap19 cur19) := Lib.hid ⟨by rw [HM.out]; exact hn19, hs19, by rw [HM.out]; exact ht19, HLT.out, by rw [HM.out]; omega⟩
             have R19 := Lib.hid (R5.out.more (js := [(g19, .cells cur19 77 (0, 0))]) b19 (fun p hp => by rw [List.mem_singleton.1 hp]; exact ⟨hb19, hr19⟩))
             have q19 : (m : Int) ≤ (cap19 : Int) := by omega
             have OG : Hid ((w19.alloc (.cells #[.slice (some ⟨g19, 0, none⟩) m cap19] 34)).ownsRow 0 34 1 (.slice s3 i c3) i V) := Lib.hid (by
               have h := (R19.out.next ((Below.refl _ _).alloc (Nat.le_refl w19.heap.size) (.cells #[.slice (some ⟨g19, 0, none⟩) m cap19] 34))).own
               unfold Rw.owned at h
               dsimp only at h
               rw [HV.out] at h
               exact h)
             clear own19 hg19 hw19 hb19 hr19 hs19 ht19)
          | (refine wp_append_cell _ (by rfl) (.tmp 11) (.tmp 26) 54 rfl 0 34 g0 _ 24 Tryz.underlying54 hg hg0 hg1 hg2 rfl (.slice s3 i c3) i V rfl OG.out _ 0 1 (.slice (some ⟨g19, 0, none⟩) m cap19) rfl (cell_new _ _ _) rfl C7.out C8.out (Nat.zero_le _) ?_
             intro v27 w27 own27 hg27 hw27
             have R27 := Lib.hid ((R19.out.next ((Below.refl _ _).alloc (Nat.le_refl w19.heap.size) (.cells #[.slice (some ⟨g19, 0, none⟩) m cap19] 34))).push (v' := v27) (xs' := V ++ [.slice (some ⟨g19, 0, none⟩) m cap19]) (by rw [List.length_append, HV.out]; exact own27) hg27 hw27)
             clear own27 hg27 hw27))
      all_goals
        go_wp2_with fail
        go_roundw
        case rel => exact ⟨i + 1, _, _, by go_num, by omega, R27.out, by rw [TK.out, ← HM.out]; exact M5.out.snoc (fun p hp => List.mem_cons_of_mem _ hp) (List.mem_cons_self ..) LN.out⟩
        case measure => simp [intOf]; omega
    · have hin : i = n := by omega
      have i1 : decide ((i : Int) < (n : Int)) = false := decide_eq_false (by omega)
      have TG : Hid (G.take i = G) := Lib.hid (List.take_of_length_le (by rw [HN.out]; omega))
      rw [TG.out] at M5
      have FIN : Hid (LentG w G (.returned (.slice s3 i c3)) w5) := Lib.hid ⟨_, _, _, rfl, R5.out, M5.out⟩
      clear hin
      go_wp2_with fail
      exact bodyPost_ret (v := .slice s3 i c3) (by simp [results, Tryz.results21, go_sem]) rfl FIN.out
end Go.Proofs.YtflnpcgnenhogaaGreatDoor.ls
namespace Go.Proofs.YtflnpcgnenhogaaGreatDoor.ls
open Go.RowKit Go.Proofs.YtflnpcgnenhogaaGreatDoor.own Go.Proofs.YtflnpcgnenhogaaGreatDoor.bit

/-- lists with a mark behind each -/
def MK (W : World) (a : Option Addr) (G : List (List Nat)) : Prop :=
 G.length ≤ 4611686018427387903 ∧ ∀ i (h : i < G.length), ∃ g o g1 c, a = some ⟨g, o, none⟩ ∧ g < W.heap.size ∧ W.cell? ⟨g, o + i, none⟩ = some (.slice (some ⟨g1, 0, none⟩) G[i].length c) ∧ G[i].length + 1 ≤ c ∧ LV W (some ⟨g1, 0, none⟩) G[i] ∧ g1 < W.heap.size ∧ W.cell? ⟨g1, G[i].length, none⟩ = some (.int .u32 77)
theorem MK.below {w w' : World} {a : Option Addr} {G : List (List Nat)} (h : MK w a G) (k : Below w.heap.size w w') : MK w' a G :=
 ⟨h.1, fun i hi => by
  obtain ⟨g, o, g1, c, h1, h2, h3, h4, h5, h6, h7⟩ := h.2 i hi
  exact ⟨g, o, g1, c, h1, Nat.lt_of_lt_of_le h2 k.size, (k.cell (p := ⟨g, o + i, none⟩) h2).trans h3, h4, h5.below k, Nat.lt_of_lt_of_le h6 k.size, (k.cell (p := ⟨g1, G[i].length, none⟩) h6).trans h7⟩⟩
theorem MK.lls {w : World} {a : Option Addr} {G : List (List Nat)} (h : MK w a G) : LLs w a G :=
 ⟨h.1, fun i hi => by
  obtain ⟨g, o, g1, c, h1, h2, h3, h4, h5, h6, h7⟩ := h.2 i hi
  exact ⟨g, o, _, c, h1, h2, h3, by omega, h5⟩⟩
theorem LentG.mk {w w' : World} {G : List (List Nat)} {e : Ending} (h : LentG w G e w') (hz : G.length ≤ 4611686018427387903) : ∃ a d, e = .returned (.slice a G.length d) ∧ Below w.heap.size w w' ∧ MK w' a G := by
 obtain ⟨v, V, ks, rfl, h1, h2⟩ := h
 have own := h1.own
 unfold Rw.owned at own
 dsimp only at own
 have hl := h2.1
 rcases own.2 with ⟨rfl, h0⟩ | ⟨g, cap, cur, rfl, hb, hg, hn, _, _, htake⟩
 ·exact ⟨none, 0, by rw [← hl, h0], h1.below, hz, fun i hi => by omega⟩
 ·refine ⟨_, cap, by rw [hl], h1.below, hz, fun i hi => ?_⟩
  obtain ⟨g1, c, cur1, e1, e2, e3⟩ := h2.2 i hi
  have hr := h1.has e2
  refine ⟨g, 0, g1, c, rfl, lt_of_block hg, ?_, e3.1, e3.lv hr, lt_of_block hr, e3.mark hr⟩
  rw [← htake, List.getElem?_take_of_lt (by omega)] at e1
  rw [Nat.zero_add, cell_of_row _ _ _ _ _ _ hg, ← Array.getElem?_toList]
  exact e1
set_option maxRecDepth 100000 in
set_option maxHeartbeats 3200000 in
theorem kept_all (w : World) (am a : Option Addr) (dm d : Nat) (G : List (List Nat)) (hM : MK w am G) (hA : LLs w a G) :
  Calls Tryz.prog 28 #[.slice am G.length dm, .slice a G.length d] w fun e w' => e = .returned (.bool true) ∧ Below w.heap.size w w' := by
 have KD : Hid (∀ q, Below w.heap.size w (w.drewN q)) := Lib.hid (fun q => ⟨rfl, rfl, rfl, Nat.le_refl _, fun _ _ => rfl⟩)
 have AL := Lib.hid (fun W (k : Below w.heap.size w W) => alike_same W am a G dm d (hM.lls.below k) (hA.below k))
 have HM := Lib.hid hM
 have HA := Lib.hid hA
 have hz := hM.1
 obtain ⟨n, hn⟩ : ∃ z, G.length = z := ⟨_, rfl⟩
 have HN := Lib.hid hn
 rw [hn] at AL hz ⊢
 clear hM hA hn
 go_enter Tryz.func28, Tryz.ntmps28
 go_wp2_with fail
 go_loopw [5] (fun v5 wr => ∃ i q : Nat, v5 = .int .i64 (i : Int) ∧ i ≤ n ∧ wr = w.drewN q) (fun v5 _ => n - (intOf v5).toNat)
 case atStart => exact ⟨0, 0, rfl, Nat.zero_le _, rfl⟩
 case round =>
  obtain ⟨i, q, rfl, hi, rfl⟩ := hrel
  by_cases hlt : i < n
  ·have hiG : i < G.length := by rw [HN.out]; exact hlt
   obtain ⟨g, o, g1, c, rfl, hg, hcm, hc1, hLm, hg1, hmk⟩ := HM.out.2 i hiG
   obtain ⟨g2, o2, s2, d2, rfl, hg2, hc2, hd2, hL2⟩ := HA.out.2 i hiG
   have hl9 := hL2.1
   obtain ⟨m, hm⟩ : ∃ z, G[i].length = z := ⟨_, rfl⟩
   rw [hm] at hcm hc1 hmk hc2 hd2 hl9
   have i1 : decide ((i : Int) < (n : Int)) = true := decide_eq_true (by omega)
   have w1 : IntKind.i64.wrap ((m : Int) + 1) = (m : Int) + 1 := IntWalk.i64_in _ (by omega)
   have b1 : (m : Int) + 1 ≤ (c : Int) := by omega
   have b2 : (0 : Int) ≤ (m : Int) := Int.natCast_nonneg _
   have b3 : (m : Int) < (m : Int) + 1 := by omega
   have b4 : (0 : Int) ≤ (m : Int) + 1 := by omega
   clear hm hLm hL2
   go_upto_region 4 with fail
   go_quiet (fail)
   go_wp2_with fail
   go_roundw
   case rel => exact ⟨i + 1, _, by go_num, by omega, (by first | rfl | exact drewN_add _ _ _)⟩
   case measure => simp [intOf]; omega
  ·have i1 : decide ((i : Int) < (n : Int)) = false := decide_eq_false (by omega)
   have AK := Lib.hid (AL.out _ (KD.out q))
   go_wp2_with fail
   with_reducible refine AK.out.mono ?_
   rintro e w2 ⟨rfl, k2⟩
   have K2 := Lib.hid ((KD.out q).trans (k2.mono (Nat.le_refl _)))
   clear k2 AK
   go_wp2_with fail
   go_ret
   exact ⟨rfl, K2.out⟩
end Go.Proofs.YtflnpcgnenhogaaGreatDoor.ls
namespace Go.Proofs.YtflnpcgnenhogaaGreatDoor.ls
open Go.RowKit Go.Proofs.YtflnpcgnenhogaaGreatDoor.own Go.Proofs.YtflnpcgnenhogaaGreatDoor.bit

/-- a graph that a call reads -/
def SeenG (w : World) (ks : List (Nat × Obj)) (a : Option Addr) (G : List (List Nat)) : Prop :=
 G.length ≤ 4611686018427387903 ∧ ∀ i (h : i < G.length), ∃ g o s d, a = some ⟨g, o, none⟩ ∧ G[i].length ≤ d ∧ Seen w ks s G[i] ∧ ∀ W : World, Below w.heap.size w W → (∀ p ∈ ks, W.heap[p.1]? = some p.2) → g < W.heap.size ∧ W.cell? ⟨g, o + i, none⟩ = some (.slice s G[i].length d)
theorem SeenG.lls {w W : World} {ks : List (Nat × Obj)} {a : Option Addr} {G : List (List Nat)} (h : SeenG w ks a G) (k : Below w.heap.size w W) (hk : ∀ p ∈ ks, W.heap[p.1]? = some p.2) : LLs W a G :=
 ⟨h.1, fun i hi => by
  obtain ⟨g, o, s, d, h1, h2, h3, h4⟩ := h.2 i hi
  obtain ⟨h5, h6⟩ := h4 W k hk
  exact ⟨g, o, s, d, h1, h5, h6, h2, h3 W k hk⟩⟩
theorem SeenG.of {w : World} (ks : List (Nat × Obj)) {a : Option Addr} {G : List (List Nat)} (h : LLs w a G) : SeenG w ks a G :=
 ⟨h.1, fun i hi => by
  obtain ⟨g, o, s, d, h1, h2, h3, h4, h5⟩ := h.2 i hi
  exact ⟨g, o, s, d, h1, h4, Seen.of w ks h5, fun W k _ => ⟨Nat.lt_of_lt_of_le h2 k.size, (k.cell (p := ⟨g, o + i, none⟩) h2).trans h3⟩⟩⟩
/-- the answer of Encode -/
def EncP (w : World) (b : Bp) (G : List (List Nat)) (ks : List (Nat × Obj)) (e : Ending) (w' : World) : Prop :=
 ∃ va kb wb ls, e = .returned (.tuple #[.string (txt (packN (stB b G).2)), va, .int .i64 0]) ∧ EA w b (stB b G).1 wb (edges G) (stB b G).2 kb ls ks va (atB b G (G.length + 1)) w'
set_option maxRecDepth 100000 in
set_option maxHeartbeats 6400000 in
theorem benc_yes {w W : World} {ks : List (Nat × Obj)} (b : Bp) (a : Option Addr) (G : List (List Nat)) (cap : Nat) (h : FS w none none ks W) (hG : GL w) (hb : BpOk (b.p.win : Int) (b.depth : Int) (b.p.itv : Int) (b.p.zet : Int) (b.cap : Int)) (hbp : b.p.ok) (hA : SeenG w ks a G)
  (hn : G.length ≤ 65536) (hr : ∀ l ∈ G, Ris l) (hv : ∀ l ∈ G, ∀ v ∈ l, v < G.length) (hE : edges G ≤ 1048576) :
  Calls Tryz.prog 22 #[.slice a G.length cap, bpV (b.p.win : Int) (b.depth : Int) (b.p.itv : Int) (b.p.zet : Int) (b.cap : Int)] W (EncP w b G ks) := by
 obtain ⟨j0, hj, hj0, hj1, hj2⟩ := info_parts Tryz.infoU64
 have hdp : b.depth ≤ 16 := by have := hb.2.2.1; omega
 have HS := Lib.hid (fun i (hi : i ≤ G.length) => stB_len hbp G hr hn i hi)
 have HE := Lib.hid (fun i => Nat.le_trans (edges_take_le G i) hE)
 have HGR := Lib.hid (fun W' (k : LLs W' a G) => graph_yes W' a G cap k hn hr hv hE)
 have NW := Lib.hid (fun ks' W' (h' : FS w none none ks' W') => bnew_yes b hb h')
 have HA := Lib.hid hA
 have HRI := Lib.hid hr
 have H := Lib.hid h
 obtain ⟨n, hnn⟩ : ∃ n, G.length = n := ⟨_, rfl⟩
 have HN := Lib.hid hnn
 rw [hnn] at hn HGR ⊢
 clear hA hr hv hnn hE h hb
 unfold bpV at NW ⊢
 go_enter Tryz.func22, Tryz.ntmps22
 go_wp2_with fail
 have F1 := H.out.add #[.int .i64 (b.p.win : Int), .int .i64 (b.depth : Int), .int .i64 (b.p.itv : Int), .int .i64 (b.p.zet : Int), .int .i64 (b.cap : Int)] 61
 with_reducible refine (NW.out _ _ (F1.sub (fun p hp => List.mem_cons_of_mem _ hp))).mono ?_
 rintro e w2 ⟨kb, wb, rfl, hK⟩
 have K2 := Lib.hid hK
 have GA := Lib.hid (HGR.out w2 (HA.out.lls hK.below (fun p hp => hK.has hp)))
 clear hK F1 NW HGR
 go_wp2_with fail
 with_reducible refine GA.out.mono ?_
 rintro e w3 ⟨rfl, rfl⟩
 have A0 := Lib.hid (EA.start K2.out)
 go_upto_region 5 with fail
 have hn9 := HA.out.1
 generalize hW3 : World.alloc w2 _ = w3 at A0 ⊢
 obtain ⟨v0, hv0⟩ : ∃ v, Value.slice (some ⟨w2.heap.size, 0, none⟩) 1 1 = v := ⟨_, rfl⟩
 rw [hv0] at A0
 have HV0 := Lib.hid hv0
 clear hW3 GA H
 rw [hv0]
 clear hv0
 go_wp2_with fail
 go_loopw [9, 31] (fun v9 v31 wr => ∃ (i : Nat) (ls : List (Nat × Obj)), v31 = .int .i64 (i : Int) ∧ i ≤ n ∧ EA w b (stB b (G.take i)).1 wb (edges (G.take i)) (stB b (G.take i)).2 kb ls ks v9 (atB b G (i + 1)) wr) (fun _ v31 _ => n - (intOf v31).toNat)
 case atStart =>
  refine ⟨0, [], rfl, Nat.zero_le _, ?_⟩
  have h0 := A0.out
  rw [List.take_zero]
  exact h0
 case round =>
  obtain ⟨i, ls, rfl, hi, hEA⟩ := hrel
  rename World => wr
  have HEA := Lib.hid hEA
  obtain ⟨s9, d9, rfl⟩ := own_shape hEA.1
  clear hEA A0
  by_cases hlt : i < n
  ·have hiG : i < G.length := by rw [HN.out]; exact hlt
   obtain ⟨_, e1⟩ := stB_at b G i hiG
   obtain ⟨e1, e2⟩ := e1
   obtain ⟨g, o, s, d, rfl, hd, hsee, hcell⟩ := HA.out.2 i hiG
   obtain ⟨-, hc⟩ := hcell wr HEA.out.below (fun p hp => HEA.out.has hp)
   have hril := HRI.out _ (List.getElem_mem hiG)
   have hTl : (stB b (G.take i)).1.length = i := by rw [stB_length, List.length_take]; omega
   have hTO : TOk (stB b (G.take i)).1 := stB_ok b _ (fun l hl => HRI.out l (List.mem_of_mem_take hl))
   have hES : edges (G.take (i + 1)) = edges (G.take i) + G[i].length := by rw [List.take_succ_eq_append_getElem hiG, edges_snoc]
   have hE1 := HE.out (i + 1)
   have hl1 := HS.out (i + 1) (by omega)
   rw [e2] at hl1
   have hl2 : (stB b (G.take i)).2.length + (addB b (stB b (G.take i)).1 G[i]).length ≤ 134217728 := by
    have : ((stB b (G.take i)).2 ++ addB b (stB b (G.take i)).1 G[i]).length ≤ 120 * (i + 1) + 80 * edges (G.take (i + 1)) := hl1
    rw [List.length_append] at this
    omega
   have AD := Lib.hid (HEA.out.add hG hbp hdp (by omega) hril hTO hd hsee (by omega) hl2)
   have HE2 : Hid ((stB b (G.take (i + 1))) = runB b (stB b (G.take i)) G[i] ∧ edges (G.take (i + 1)) = edges (G.take i) + G[i].length) := Lib.hid ⟨e2, hES⟩
   obtain ⟨l, hl⟩ : ∃ l, G[i] = l := ⟨_, rfl⟩
   have hm65 := hril.len
   rw [hl] at AD HE2 hc hl2 hm65
   obtain ⟨T, hT⟩ : ∃ T, stB b (G.take i) = T := ⟨_, rfl⟩
   have HT := Lib.hid hT
   rw [hT] at AD HE2 hl2
   obtain ⟨m, hm⟩ : ∃ m, l.length = m := ⟨_, rfl⟩
   have HM := Lib.hid hm
   rw [hm] at hc hm65
   rw [hm] at AD
   have i1 : decide ((i : Int) < (n : Int)) = true := decide_eq_true (by omega)
   clear e1 e2 hd hsee hcell hril hTl hTO hES hE1 hl1 hT hm hl
   go_wp2_with fail
   with_reducible refine AD.out.mono ?_
   rintro e w5 ⟨rfl, ls5, hE5⟩
   have E5 := Lib.hid hE5
   have BI := Lib.hid (hE5.bits (by rw [List.length_append]; omega))
   obtain ⟨lb, hlb⟩ : ∃ z, (T.2 ++ addB b T.1 l).length = z := ⟨_, rfl⟩
   have HLB := Lib.hid hlb
   have hlb9 : lb ≤ 134217728 := by rw [← hlb, List.length_append]; exact hl2
   rw [hlb] at BI
   clear hE5 AD hlb
   go_wp2_with fail
   with_reducible refine BI.out.mono ?_
   rintro e w6 ⟨rfl, hE6⟩
   have E6 := Lib.hid hE6
   have uw : IntKind.u64.wrap (lb : Int) = (lb : Int) := IntWalk.u64_in _ (by omega)
   clear hE6 BI
   have AT : Hid (atB b G (i + 1 + 1) = atB b G (i + 1) ++ [lb]) := Lib.hid (by rw [atB_succ, HE2.out.1]; show _ ++ [(T.2 ++ addB b T.1 l).length] = _; rw [HLB.out])
   have hna : (atB b G (i + 1)).length = i + 1 := by unfold atB; rw [List.length_map, List.length_range]
   have HNA := Lib.hid hna
   obtain ⟨na, hna2⟩ : ∃ z, (atB b G (i + 1)).length = z := ⟨_, rfl⟩
   have HNA2 := Lib.hid hna2
   have hna9 : na ≤ 65537 := by omega
   have C3 : Hid (na + 1 ≤ maxLen) := Lib.hid (by simp only [maxLen]; omega)
   have C4 : Hid ((na + 1) * 8 ≤ 140737488355328) := Lib.hid (by omega)
   have OA : Hid ((w6.alloc (.cells #[.int .u64 (lb : Int)] 97)).ownsRow 0 97 1 (.slice s9 na d9) na (u64V (atB b G (i + 1)))) := Lib.hid (by
    have h := E6.out.1.alloc (.cells #[.int .u64 (lb : Int)] 97)
    rw [hna2] at h
    exact h)
   rw [hna2] at E6 HEA ⊢
   clear hna hna2 E5 HEA
   go_wp2_with (at_builtin; refine wpList_append_at _ rfl _ _ 58 rfl 0 97 j0 _ 1 8 Tryz.underlying58 hj hj0 hj1 hj2 rfl (by decide) _ na _ rfl OA.out ⟨w6.heap.size, 0, none⟩ 1 1 [.int .u64 (lb : Int)] rfl rfl (cell_one_new _ _ _) (fun u hu => by simp at hu; subst hu; rfl) C3.out C4.out (Nat.zero_le _) (by decide) ?_)
   intro v7 w7 own7 hg7 hw7
   have E7 : Hid (EA w b (stB b (G.take (i + 1))).1 wb (edges (G.take (i + 1))) (stB b (G.take (i + 1))).2 kb ls5 ks v7 (atB b G (i + 1 + 1)) w7) := Lib.hid (by
    rw [AT.out, HE2.out.1, HE2.out.2, HM.out]
    exact E6.out.push _ lb (by rw [HNA2.out]; exact own7) hg7 (by simpa using hw7))
   clear own7 hg7 hw7 OA E6
   go_wp2_with fail
   go_roundw
   case rel => exact ⟨i + 1, ls5, by go_num, by omega, E7.out⟩
   case measure => simp [intOf]; omega
  ·have hin : i = n := by omega
   have i1 : decide ((i : Int) < (n : Int)) = false := decide_eq_false (by omega)
   have TG : Hid (G.take i = G) := Lib.hid (List.take_of_length_le (by rw [HN.out]; omega))
   have HIN := Lib.hid hin
   rw [TG.out] at HEA
   have TX := Lib.hid HEA.out.text
   obtain ⟨na, hna⟩ : ∃ z, (atB b G (i + 1)).length = z := ⟨_, rfl⟩
   have HNA := Lib.hid hna
   obtain ⟨t, ht⟩ : ∃ t, txt (packN (stB b G).2) = t := ⟨_, rfl⟩
   have HTX := Lib.hid ht
   rw [ht] at TX
   rw [hna] at TX HEA ⊢
   clear hna ht hin
   go_wp2_with fail
   with_reducible refine TX.out.mono ?_
   rintro e w8 ⟨rfl, hE8⟩
   have E8 := Lib.hid hE8
   clear hE8 TX HEA
   go_wp2_with fail
   exact bodyPost_ret (v := .tuple #[.string t, .slice s9 na d9, .int .i64 0]) (by simp [results, Tryz.results22, go_sem]) rfl ⟨_, kb, wb, ls, by rw [HTX.out], by rw [HN.out, ← HIN.out]; exact E8.out⟩
end Go.Proofs.YtflnpcgnenhogaaGreatDoor.ls
namespace Go.Proofs.YtflnpcgnenhogaaGreatDoor.ls
open Go.RowKit Go.Proofs.YtflnpcgnenhogaaGreatDoor.own Go.Proofs.YtflnpcgnenhogaaGreatDoor.bit

set_option maxRecDepth 100000 in
theorem bnew_no (win dep itv zet cap : Int) (hb : ¬ BpOk win dep itv zet cap) (w : World) : Calls Tryz.prog 36 #[bpV win dep itv zet cap] w fun e w' => e = .returned (.tuple #[.pointer none, .int .i64 1]) ∧ Below w.heap.size w w' := by
 have CK := Lib.hid (fun W' => bcheck_any win dep itv zet cap W')
 rw [if_neg hb] at CK
 clear hb
 unfold bpV at CK ⊢
 go_enter Tryz.func36, Tryz.ntmps36
 go_wp2_with fail
 have k1 : Below w.heap.size w (w.alloc (.cells #[.int .i64 win, .int .i64 dep, .int .i64 itv, .int .i64 zet, .int .i64 cap] 61)) := (Below.refl _ _).alloc (Nat.le_refl _) _
 with_reducible refine (CK.out _).mono ?_
 rintro e w2 ⟨rfl, k2⟩
 have K2 := Lib.hid (k1.trans (k2.mono k1.size))
 clear k1 k2
 go_wp2_with fail
 go_ret2
 exact ⟨rfl, K2.out⟩
set_option maxRecDepth 100000 in
theorem benc_no (win dep itv zet cap : Int) (hb : ¬ BpOk win dep itv zet cap) (a : Option Addr) (n d : Nat) (w : World) : Calls Tryz.prog 22 #[.slice a n d, bpV win dep itv zet cap] w fun e w' => e = .returned (.tuple #[.string ⟨#[]⟩, .slice none 0 0, .int .i64 1]) ∧ Below w.heap.size w w' := by
 have NW := Lib.hid (fun W' => bnew_no win dep itv zet cap hb W')
 clear hb
 unfold bpV at NW ⊢
 go_enter Tryz.func22, Tryz.ntmps22
 go_wp2_with fail
 have k1 : Below w.heap.size w (w.alloc (.cells #[.int .i64 win, .int .i64 dep, .int .i64 itv, .int .i64 zet, .int .i64 cap] 61)) := (Below.refl _ _).alloc (Nat.le_refl _) _
 with_reducible refine (NW.out _).mono ?_
 rintro e w2 ⟨rfl, k2⟩
 have K2 := Lib.hid (k1.trans (k2.mono k1.size))
 clear k1 k2
 go_wp2_with fail
 exact bodyPost_ret (v := .tuple #[.string ⟨#[]⟩, .slice none 0 0, .int .i64 1]) (by simp [results, Tryz.results22, go_sem]) rfl ⟨rfl, K2.out⟩
end Go.Proofs.YtflnpcgnenhogaaGreatDoor.ls
namespace Go.Proofs.YtflnpcgnenhogaaGreatDoor.ls
open Go.RowKit Go.Proofs.YtflnpcgnenhogaaGreatDoor.own Go.Proofs.YtflnpcgnenhogaaGreatDoor.bit

set_option maxRecDepth 100000 in
theorem benc_none (b : Bp) (hb : BpOk (b.p.win : Int) (b.depth : Int) (b.p.itv : Int) (b.p.zet : Int) (b.cap : Int)) (a : Option Addr) (G : List (List Nat)) (d : Nat) (w : World) (hA : LLs w a G) (hn : G.length ≤ 1000) (hls : ∀ l ∈ G, l.length < 35184372088832) (hg : ¬ GOk G) :
  Calls Tryz.prog 22 #[.slice a G.length d, bpV (b.p.win : Int) (b.depth : Int) (b.p.itv : Int) (b.p.zet : Int) (b.cap : Int)] w fun e w' => e = .returned (.tuple #[.string ⟨#[]⟩, .slice none 0 0, .int .i64 1]) ∧ Below w.heap.size w w' := by
 have NW := Lib.hid (fun ks' W' (h' : FS w none none ks' W') => bnew_yes b hb h')
 have GR := Lib.hid (fun W' (k : Below w.heap.size w W') => graph_all W' a G d (hA.below k) hn hls)
 have HNO := Lib.hid hg
 have F0 := Lib.hid (FS.start w)
 obtain ⟨n, hnn⟩ : ∃ z, G.length = z := ⟨_, rfl⟩
 rw [hnn] at GR ⊢
 clear hA hls hg hb hnn
 unfold bpV at NW ⊢
 go_enter Tryz.func22, Tryz.ntmps22
 go_wp2_with fail
 have F1 := F0.out.add #[.int .i64 (b.p.win : Int), .int .i64 (b.depth : Int), .int .i64 (b.p.itv : Int), .int .i64 (b.p.zet : Int), .int .i64 (b.cap : Int)] 61
 with_reducible refine (NW.out _ _ F1).mono ?_
 rintro e w2 ⟨kb, wb, rfl, hK⟩
 have K2 := Lib.hid hK.below
 have GA := Lib.hid (GR.out w2 K2.out)
 clear hK F1
 go_wp2_with fail
 with_reducible refine GA.out.mono ?_
 rintro e w3 ⟨b1, rfl, hb1, rfl⟩
 cases b1 with
 | true => exact absurd (hb1.1 rfl) HNO.out
 | false =>
  clear hb1
  go_wp2_with fail
  exact bodyPost_ret (v := .tuple #[.string ⟨#[]⟩, .slice none 0 0, .int .i64 1]) (by simp [results, Tryz.results22, go_sem]) rfl ⟨rfl, K2.out⟩
set_option maxRecDepth 100000 in
theorem usual_any (w : World) : Calls Tryz.prog 25 #[] w fun e w' => e = .returned (.agg #[.int .i64 7, .int .i64 3, .int .i64 4, .int .i64 3, .int .i64 1024]) ∧ Below w.heap.size w w' := by
 go_enter Tryz.func25, Tryz.ntmps25
 go_wp2_with fail
 have r := heap_alloc_new w (.cells #[.int .i64 7, .int .i64 3, .int .i64 4, .int .i64 3, .int .i64 1024] 61)
 have kb : Below w.heap.size w (w.alloc (.cells #[.int .i64 7, .int .i64 3, .int .i64 4, .int .i64 3, .int .i64 1024] 61)) := (Below.refl _ _).alloc (Nat.le_refl _) _
 have q0 : (w.alloc (.cells #[.int .i64 7, .int .i64 3, .int .i64 4, .int .i64 3, .int .i64 1024] 61)).cell? ⟨w.heap.size, 0, none⟩ = some (.int .i64 7) := by rw [cell_of_row _ _ _ _ _ _ r]; rfl
 have q1 : (w.alloc (.cells #[.int .i64 7, .int .i64 3, .int .i64 4, .int .i64 3, .int .i64 1024] 61)).cell? ⟨w.heap.size, 1, none⟩ = some (.int .i64 3) := by rw [cell_of_row _ _ _ _ _ _ r]; rfl
 have q2 : (w.alloc (.cells #[.int .i64 7, .int .i64 3, .int .i64 4, .int .i64 3, .int .i64 1024] 61)).cell? ⟨w.heap.size, 2, none⟩ = some (.int .i64 4) := by rw [cell_of_row _ _ _ _ _ _ r]; rfl
 have q3 : (w.alloc (.cells #[.int .i64 7, .int .i64 3, .int .i64 4, .int .i64 3, .int .i64 1024] 61)).cell? ⟨w.heap.size, 3, none⟩ = some (.int .i64 3) := by rw [cell_of_row _ _ _ _ _ _ r]; rfl
 have q4 : (w.alloc (.cells #[.int .i64 7, .int .i64 3, .int .i64 4, .int .i64 3, .int .i64 1024] 61)).cell? ⟨w.heap.size, 4, none⟩ = some (.int .i64 1024) := by rw [cell_of_row _ _ _ _ _ _ r]; rfl
 exact bodyPost_ret (v := .agg #[.int .i64 7, .int .i64 3, .int .i64 4, .int .i64 3, .int .i64 1024]) (by simp [results, Tryz.results25, go_sem, q0, q1, q2, q3, q4]) rfl ⟨rfl, kb⟩
set_option maxRecDepth 100000 in
theorem dusual_any (w : World) : Calls Tryz.prog 31 #[] w fun e w' => e = .returned (.agg #[.int .i64 7, .int .i64 3, .int .i64 4, .int .i64 3, .int .i64 1024]) ∧ Below w.heap.size w w' := by
 go_enter Tryz.func31, Tryz.ntmps31
 go_wp2_with fail
 have r := heap_alloc_new w (.cells #[.int .i64 7, .int .i64 3, .int .i64 4, .int .i64 3, .int .i64 1024] 56)
 have kb : Below w.heap.size w (w.alloc (.cells #[.int .i64 7, .int .i64 3, .int .i64 4, .int .i64 3, .int .i64 1024] 56)) := (Below.refl _ _).alloc (Nat.le_refl _) _
 have q0 : (w.alloc (.cells #[.int .i64 7, .int .i64 3, .int .i64 4, .int .i64 3, .int .i64 1024] 56)).cell? ⟨w.heap.size, 0, none⟩ = some (.int .i64 7) := by rw [cell_of_row _ _ _ _ _ _ r]; rfl
 have q1 : (w.alloc (.cells #[.int .i64 7, .int .i64 3, .int .i64 4, .int .i64 3, .int .i64 1024] 56)).cell? ⟨w.heap.size, 1, none⟩ = some (.int .i64 3) := by rw [cell_of_row _ _ _ _ _ _ r]; rfl
 have q2 : (w.alloc (.cells #[.int .i64 7, .int .i64 3, .int .i64 4, .int .i64 3, .int .i64 1024] 56)).cell? ⟨w.heap.size, 2, none⟩ = some (.int .i64 4) := by rw [cell_of_row _ _ _ _ _ _ r]; rfl
 have q3 : (w.alloc (.cells #[.int .i64 7, .int .i64 3, .int .i64 4, .int .i64 3, .int .i64 1024] 56)).cell? ⟨w.heap.size, 3, none⟩ = some (.int .i64 3) := by rw [cell_of_row _ _ _ _ _ _ r]; rfl
 have q4 : (w.alloc (.cells #[.int .i64 7, .int .i64 3, .int .i64 4, .int .i64 3, .int .i64 1024] 56)).cell? ⟨w.heap.size, 4, none⟩ = some (.int .i64 1024) := by rw [cell_of_row _ _ _ _ _ _ r]; rfl
 exact bodyPost_ret (v := .agg #[.int .i64 7, .int .i64 3, .int .i64 4, .int .i64 3, .int .i64 1024]) (by simp [results, Tryz.results31, go_sem, q0, q1, q2, q3, q4]) rfl ⟨rfl, kb⟩
theorem LLs.take {w : World} {a : Option Addr} {G : List (List Nat)} (h : LLs w a G) (k : Nat) : LLs w a (G.take k) :=
 ⟨by rw [List.length_take]; have := h.1; omega, fun i hi => by
  rw [List.length_take] at hi
  obtain ⟨g, o, s, d, h1, h2, h3, h4, h5⟩ := h.2 i (by omega)
  rw [List.getElem_take]
  exact ⟨g, o, s, d, h1, h2, h3, h4, h5⟩⟩
end Go.Proofs.YtflnpcgnenhogaaGreatDoor.ls
namespace Go.Proofs.YtflnpcgnenhogaaGreatDoor.ls
open Go.RowKit Go.Proofs.YtflnpcgnenhogaaGreatDoor.own Go.Proofs.YtflnpcgnenhogaaGreatDoor.bit

theorem FS.dropw {w W : World} {wr : Option (Nat × Bits)} {rd : Option (Nat × ByteArray × Nat)} {ks : List (Nat × Obj)} (h : FS w wr rd ks W) : FS w none rd ks W := by
 obtain ⟨x, hf, hw, hr, hk⟩ := h
 exact ⟨x, hf, fun q e => (by cases e), hr, hk⟩
/-- what stands behind Encode: the places alone -/
theorem EncP.fs {w w' : World} {b : Bp} {G : List (List Nat)} {ks : List (Nat × Obj)} {e : Ending} (h : EncP w b G ks e w') (hn : G.length ≤ 65536) :
  ∃ sa da ka, e = .returned (.tuple #[.string (txt (packN (stB b G).2)), .slice sa (G.length + 1) da, .int .i64 0]) ∧ FS w none none (ka ++ ks) w' ∧ G.length + 1 ≤ da ∧ StU ka sa (atB b G (G.length + 1)) := by
 obtain ⟨va, kb, wb, ls, rfl, own, ka, h2, h3, h4, h5⟩ := h
 have hl : (atB b G (G.length + 1)).length = G.length + 1 := by unfold atB; rw [List.length_map, List.length_range]
 have f : FS w none none (ka ++ ks) w' := by
  obtain ⟨row, h6, _⟩ := h2
  exact (h6.sub (fun p hp => List.mem_cons_of_mem _ (List.mem_append_right _ hp))).dropw
 obtain ⟨sa, da, e1, e2, e3⟩ := own_stU own h3 (fun p hp => f.row (b := p.1) (o := p.2) (List.mem_append_left _ hp)) (by rw [hl]; omega)
 rw [hl] at e1 e2
 exact ⟨sa, da, ka, by rw [e1], f, e2, e3⟩
theorem bp_nat {pw pd pi pz pc : Int} (h : BpOk pw pd pi pz pc) : ∃ b : Bp, b.p.ok ∧ pw = (b.p.win : Int) ∧ pd = (b.depth : Int) ∧ pi = (b.p.itv : Int) ∧ pz = (b.p.zet : Int) ∧ pc = (b.cap : Int) := by
 obtain ⟨⟨h1, h2, h3, h4, h5⟩, h6, h7, h8, h9⟩ := h
 refine ⟨⟨⟨pw.toNat, pi.toNat, pz.toNat⟩, pd.toNat, pc.toNat⟩, ?_, ?_, ?_, ?_, ?_, ?_⟩
 ·unfold Pr.ok
  dsimp only
  omega
 all_goals dsimp only; omega
end Go.Proofs.YtflnpcgnenhogaaGreatDoor.ls
namespace Go.Proofs.YtflnpcgnenhogaaGreatDoor.ls
open Go.RowKit Go.Proofs.YtflnpcgnenhogaaGreatDoor.own Go.Proofs.YtflnpcgnenhogaaGreatDoor.bit

/-- what both Encodes answer -/
def EncR (w : World) (K : List (Nat × Obj)) (sx : ByteArray) (PL : List Nat) (ec : Int) (e : Ending) (w' : World) : Prop :=
 ∃ sa da ka, e = .returned (.tuple #[.string sx, .slice sa PL.length da, .int .i64 ec]) ∧ FS w none none (ka ++ K) w' ∧ StU ka sa PL
theorem EncR.none {w W w' : World} {K : List (Nat × Obj)} (h : FS w none none K W) {e : Ending} (h1 : e = .returned (.tuple #[.string ⟨#[]⟩, .slice none 0 0, .int .i64 1])) (h2 : Below W.heap.size W w') : EncR w K ⟨#[]⟩ [] 1 e w' :=
 ⟨Option.none, 0, [], h1, h.next h2, fun W' _ => ⟨Nat.zero_le _, fun i hi => by cases hi⟩⟩
theorem both_enc (w : World) (hGL : GL w) (am a : Option Addr) (dm d : Nat) (G : List (List Nat)) (hM : LLs w am G) (hA : LLs w a G) (hn : G.length ≤ 1000) (hls : ∀ l ∈ G, l.length < 35184372088832) (pw pd pi pz pc : Int) :
  ∃ sx PL ec, PL.length ≤ 1001 ∧ (∀ K W, FS w none none K W → Calls Tryz.prog 22 #[.slice am G.length dm, bpV pw pd pi pz pc] W (EncR w K sx PL ec)) ∧ (∀ K W, FS w none none K W → Calls Tryz.prog 24 #[.slice a G.length d, bpV pw pd pi pz pc] W (EncR w K sx PL ec)) := by
 by_cases hb : BpOk pw pd pi pz pc
 ·obtain ⟨b, hbp, rfl, rfl, rfl, rfl, rfl⟩ := bp_nat hb
  by_cases hg : GOk G
  ·have hal : (atB b G (G.length + 1)).length = G.length + 1 := by unfold atB; rw [List.length_map, List.length_range]
   refine ⟨txt (packN (stB b G).2), atB b G (G.length + 1), 0, by rw [hal]; omega, fun K W h => ?_, fun K W h => ?_⟩
   ·refine (benc_yes b am G dm h hGL hb hbp (SeenG.of K hM) hg.2.1 hg.ris.1 hg.ris.2 hg.2.2).mono (fun e w' h' => ?_)
    obtain ⟨sa, da, ka, rfl, f, _, st⟩ := h'.fs hg.2.1
    exact ⟨sa, da, ka, by rw [hal], f, st⟩
   ·refine (bdenc_yes b a G d h hb hbp hA hg hn hls).mono (fun e w' h' => ?_)
    obtain ⟨sa, da, ka, rfl, f, _, st⟩ := h'
    exact ⟨sa, da, ka, by rw [hal], f, st⟩
  ·refine ⟨⟨#[]⟩, [], 1, Nat.zero_le _, fun K W h => ?_, fun K W h => ?_⟩
   ·exact (benc_none b hb am G dm W (hM.below h.below) hn hls hg).mono (fun e w' h' => EncR.none h h'.1 h'.2)
   ·exact (bdenc_no W _ _ _ _ _ a G d (hA.below h.below) hn hls (fun h => hg h.2)).mono (fun e w' h' => EncR.none h h'.1 h'.2)
 ·refine ⟨⟨#[]⟩, [], 1, Nat.zero_le _, fun K W h => ?_, fun K W h => ?_⟩
  ·exact (benc_no pw pd pi pz pc hb am G.length dm W).mono (fun e w' h' => EncR.none h h'.1 h'.2)
  ·exact (bdenc_no W _ _ _ _ _ a G d (hA.below h.below) hn hls (fun h => hb h.1)).mono (fun e w' h' => EncR.none h h'.1 h'.2)
set_option maxRecDepth 100000 in
set_option maxHeartbeats 12800000 in
theorem bvencs_any (w : World) (hG : GL w) (haw : ∀ W, Below w.heap.size w W → Calls Tryz.prog 32 #[] W fun e w' => e = .returned (.bool true) ∧ Below W.heap.size W w')
  (a0 : Option Addr) (L : List (List Nat)) (cap : Nat) (pw pd pi pz pc : Int) (hL : LLs w a0 L) (hls : ∀ l ∈ L, l.length < 35184372088832) (hc : L.length ≤ cap) (hl : L.length ≤ 4611686018427387903) :
  Calls Tryz.prog 4 #[.slice a0 L.length cap, bpV pw pd pi pz pc] w fun e w' => e = .returned (.bool true) ∧ Below w.heap.size w w' := by
 have GW := Lib.hid hG
 have AW := Lib.hid haw
 obtain ⟨G, hGG⟩ : ∃ G, L.take 120 = G := ⟨_, rfl⟩
 have hAG : LLs w a0 G := by rw [← hGG]; exact hL.take 120
 have hGl : ∀ l ∈ G, l.length < 35184372088832 := fun l hl => hls l (by rw [← hGG] at hl; exact List.mem_of_mem_take hl)
 have hGn : G.length = min L.length 120 := by rw [← hGG, List.length_take, Nat.min_comm]
 have hG1 : G.length ≤ 1000 := by omega
 have LN := Lib.hid (fun W (k : Below w.heap.size w W) => lent_all W a0 G cap (hAG.below k) hG1 hGl)
 have HAG := Lib.hid hAG
 have HGL := Lib.hid hGl
 have OW := Lib.hid (fun W => bown_any pw pd pi pz pc W)
 obtain ⟨M0, hM0⟩ : ∃ z, L.length = z := ⟨_, rfl⟩
 obtain ⟨n, hn⟩ : ∃ z, G.length = z := ⟨_, rfl⟩
 have HN := Lib.hid hn
 rw [hM0] at hc hl ⊢
 rw [hn, hM0] at hGn
 rw [hn] at LN
 have w1 : min (M0 : Int) 120 = (n : Int) := by omega
 unfold bpV at OW ⊢
 clear hG haw hL hls hGG hAG hGl hM0 hn hG1
 go_enter Tryz.func4, Tryz.ntmps4
 go_wp2_with fail
 rw [← hGn]
 have hn120 : n ≤ 120 := by omega
 clear hGn w1
 have k1 : Below w.heap.size w (w.alloc (.cells #[.int .i64 pw, .int .i64 pd, .int .i64 pi, .int .i64 pz, .int .i64 pc] 56)) := (Below.refl _ _).alloc (Nat.le_refl _) _
 have r1 := heap_alloc_new w (.cells #[.int .i64 pw, .int .i64 pd, .int .i64 pi, .int .i64 pz, .int .i64 pc] 56)
 with_reducible refine (LN.out _ k1).mono ?_
 rintro e w2 hLN
 obtain ⟨am, dm, rfl, kb2, hMK⟩ := hLN.mk (by rw [HN.out]; omega)
 rw [HN.out]
 have K2 := Lib.hid (k1.trans (kb2.mono k1.size))
 have P2 := Lib.hid ((kb2.block _ (lt_of_block r1)).trans r1)
 obtain ⟨pb, hpb⟩ : ∃ z, w.heap.size = z := ⟨_, rfl⟩
 have MK2 := Lib.hid hMK
 have GL2 := Lib.hid (GW.out.below K2.out)
 have A2 := Lib.hid (HAG.out.below K2.out)
 have AW2 : Hid (∀ W, Below w2.heap.size w2 W → Calls Tryz.prog 32 #[] W fun e w' => e = .returned (.bool true) ∧ Below W.heap.size W w') := Lib.hid (fun W k => AW.out W (K2.out.trans (k.mono K2.out.size)))
 have FIN : Hid (∀ W, Below w2.heap.size w2 W → Below w.heap.size w W) := Lib.hid (fun W k => K2.out.trans (k.mono K2.out.size))
 have PCL : Hid (∀ W, Below w2.heap.size w2 W → W.cell? ⟨pb, 0, none⟩ = some (.int .i64 pw) ∧ W.cell? ⟨pb, 1, none⟩ = some (.int .i64 pd) ∧ W.cell? ⟨pb, 2, none⟩ = some (.int .i64 pi) ∧ W.cell? ⟨pb, 3, none⟩ = some (.int .i64 pz) ∧ W.cell? ⟨pb, 4, none⟩ = some (.int .i64 pc)) := Lib.hid (fun W k => by
  have h := P2.out
  rw [hpb] at h
  have e2 := (k.block pb (lt_of_block h)).trans h
  exact ⟨by rw [cell_of_row _ _ _ _ _ _ e2]; rfl, by rw [cell_of_row _ _ _ _ _ _ e2]; rfl, by rw [cell_of_row _ _ _ _ _ _ e2]; rfl, by rw [cell_of_row _ _ _ _ _ _ e2]; rfl, by rw [cell_of_row _ _ _ _ _ _ e2]; rfl⟩)
 obtain ⟨sx, PL, ec, hPL9, hEN, hDE⟩ := both_enc w2 GL2.out am a0 dm cap G hMK.lls A2.out (by rw [HN.out]; omega) (fun l hl => by have := HGL.out l hl; omega) pw pd pi pz pc
 rw [HN.out] at hEN hDE
 unfold bpV at hEN hDE
 have EN := Lib.hid hEN
 have DE := Lib.hid hDE
 clear k1 r1 hLN kb2 hMK P2 LN hEN hDE
 have F2 := Lib.hid (FS.start w2)
 obtain ⟨p0, p1, p2, p3, p4⟩ := PCL.out _ (Below.refl _ _)
 go_wp2_with fail
 with_reducible refine (OW.out _).mono ?_
 rintro e w3 ⟨rfl, k3⟩
 have F3 := Lib.hid (F2.out.next k3)
 clear k3 p0 p1 p2 p3 p4 F2
 go_wp2_with fail
 with_reducible refine (EN.out _ _ F3.out).mono ?_
 rintro e w4 ⟨sa, da, ka, rfl, f4, hsa⟩
 have F4 := Lib.hid f4
 have HSA := Lib.hid hsa
 obtain ⟨p0, p1, p2, p3, p4⟩ := PCL.out _ f4.below
 clear f4 hsa EN F3
 go_wp2_with fail
 with_reducible refine (DE.out _ _ F4.out).mono ?_
 rintro e w5 ⟨sb, db, kb, rfl, f5, hsb⟩
 have F5 := Lib.hid f5
 have HSB := Lib.hid hsb
 clear f5 hsb DE F4 p0 p1 p2 p3 p4
 go_wp2_with fail
 with_reducible refine (usual_any _).mono ?_
 rintro e w6 ⟨rfl, k6⟩
 have F6 := Lib.hid (F5.out.next k6)
 clear k6 F5
 go_upto_region 6 with fail
 have f7 := F6.out.add #[.int .i64 7, .int .i64 3, .int .i64 4, .int .i64 3, .int .i64 1024] 61
 obtain ⟨ub, hub⟩ : ∃ z, w6.heap.size = z := ⟨_, rfl⟩
 rw [hub] at f7 ⊢
 generalize World.alloc w6 _ = w7 at f7 ⊢
 have F7 := Lib.hid f7
 obtain ⟨p0, p1, p2, p3, p4⟩ := PCL.out _ f7.below
 have BL := Lib.hid (fun W => blist_any pw pd pi pz pc W)
 unfold bpV parV at BL
 clear f7 F6 hub
 go_wp2_with fail
 with_reducible refine (OW.out _).mono ?_
 rintro e w8 ⟨rfl, k8⟩
 have F8 := Lib.hid (F7.out.next k8)
 clear k8 p0 p1 p2 p3 p4 F7
 go_wp2_with fail
 with_reducible refine (BL.out _).mono ?_
 rintro e w9 ⟨rfl, k9⟩
 have F9 := Lib.hid (F8.out.next k9)
 clear k9 F8
 go_upto_region 7 with fail
 have f10 := F9.out.add #[.int .i64 pw, .int .i64 pi, .int .i64 pz] 42
 obtain ⟨lb, hlb⟩ : ∃ z, w9.heap.size = z := ⟨_, rfl⟩
 rw [hlb] at f10 ⊢
 generalize World.alloc w9 _ = w9 at f10 ⊢
 have F10 := Lib.hid f10
 have e1 := f10.row (List.mem_cons_self ..)
 have e2 := f10.row (List.mem_cons_of_mem _ (List.mem_cons_self ..))
 have hp := PCL.out _ f10.below
 have MF : Hid (∀ W, Below w9.heap.size w9 W → W.cell? ⟨pb, 0, none⟩ = some (.int .i64 pw) ∧ W.cell? ⟨pb, 1, none⟩ = some (.int .i64 pd) ∧ W.cell? ⟨pb, 2, none⟩ = some (.int .i64 pi) ∧ W.cell? ⟨pb, 3, none⟩ = some (.int .i64 pz) ∧ W.cell? ⟨pb, 4, none⟩ = some (.int .i64 pc) ∧ W.cell? ⟨ub, 0, none⟩ = some (.int .i64 7) ∧ W.cell? ⟨ub, 1, none⟩ = some (.int .i64 3) ∧ W.cell? ⟨ub, 2, none⟩ = some (.int .i64 4) ∧ W.cell? ⟨ub, 3, none⟩ = some (.int .i64 3) ∧ W.cell? ⟨ub, 4, none⟩ = some (.int .i64 1024) ∧ W.cell? ⟨lb, 0, none⟩ = some (.int .i64 pw) ∧ W.cell? ⟨lb, 1, none⟩ = some (.int .i64 pi) ∧ W.cell? ⟨lb, 2, none⟩ = some (.int .i64 pz) ∧ Below w9.heap.size w9 W) := Lib.hid (fun W k => by
  obtain ⟨p0, p1, p2, p3, p4⟩ := hp
  have cc : ∀ p v, w9.cell? p = some v → W.cell? p = some v := fun p v h => (k.cell (World.block_lt_of_cell? _ _ h)).trans h
  have x1 := (k.block _ (lt_of_block e1)).trans e1
  have x2 := (k.block _ (lt_of_block e2)).trans e2
  exact ⟨cc _ _ p0, cc _ _ p1, cc _ _ p2, cc _ _ p3, cc _ _ p4, by rw [cell_of_row _ _ _ _ _ _ x2]; rfl, by rw [cell_of_row _ _ _ _ _ _ x2]; rfl, by rw [cell_of_row _ _ _ _ _ _ x2]; rfl, by rw [cell_of_row _ _ _ _ _ _ x2]; rfl, by rw [cell_of_row _ _ _ _ _ _ x2]; rfl, by rw [cell_of_row _ _ _ _ _ _ x1]; rfl, by rw [cell_of_row _ _ _ _ _ _ x1]; rfl, by rw [cell_of_row _ _ _ _ _ _ x1]; rfl, k⟩)
 have SAM : Hid (∀ W, Below w9.heap.size w9 W → Calls Tryz.prog 27 #[.slice sa PL.length da, .slice sb PL.length db] W fun e w' => e = .returned (.bool true) ∧ Below W.heap.size W w') := Lib.hid (fun W k => by
  have f := F10.out.next k
  exact usame_any W sa sb PL da db (HSA.out W (fun p hp => f.row (b := p.1) (o := p.2) (by simp [hp]))) (HSB.out W (fun p hp => f.row (b := p.1) (o := p.2) (by simp [hp]))))
 have KEP : Hid (∀ W, Below w9.heap.size w9 W → Calls Tryz.prog 28 #[.slice am n dm, .slice a0 n cap] W fun e w' => e = .returned (.bool true) ∧ Below W.heap.size W w') := Lib.hid (fun W k => by
  have kk := (F10.out.next k).below
  have h := kept_all W am a0 dm cap G (MK2.out.below kk) (A2.out.below kk)
  rw [HN.out] at h
  exact h)
 have AWT : Hid (∀ W, Below w9.heap.size w9 W → Calls Tryz.prog 32 #[] W fun e w' => e = .returned (.bool true) ∧ Below W.heap.size W w') := Lib.hid (fun W k => AW2.out W (F10.out.next k).below)
 have OU := Lib.hid (fun W => bown_any 7 3 4 3 1024 W)
 have DU := Lib.hid (fun W => dusual_any W)
 obtain ⟨ck, hck⟩ : ∃ z : Int, (if BpOk pw pd pi pz pc then 0 else 1) = z := ⟨_, rfl⟩
 have PCH := Lib.hid (fun W => bcheck_any pw pd pi pz pc W)
 have DCH := Lib.hid (fun W => dbcheck_any pw pd pi pz pc W)
 rw [hck] at PCH DCH
 unfold bpV at PCH DCH OU
 have KX := Lib.hid (fun W W' (h : Below w9.heap.size w9 W) (k : Below W.heap.size W W') => h.trans (k.mono h.size))
 have K0 := Below.refl w9.heap.size w9
 clear f10 e1 e2 hp hck hlb
 --R7
 go_region_held3 (fun W => W.cell? ⟨pb, 0, none⟩ = some (.int .i64 pw) ∧ W.cell? ⟨pb, 1, none⟩ = some (.int .i64 pd) ∧ W.cell? ⟨pb, 2, none⟩ = some (.int .i64 pi) ∧ W.cell? ⟨pb, 3, none⟩ = some (.int .i64 pz) ∧ W.cell? ⟨pb, 4, none⟩ = some (.int .i64 pc) ∧ W.cell? ⟨ub, 0, none⟩ = some (.int .i64 7) ∧ W.cell? ⟨ub, 1, none⟩ = some (.int .i64 3) ∧ W.cell? ⟨ub, 2, none⟩ = some (.int .i64 4) ∧ W.cell? ⟨ub, 3, none⟩ = some (.int .i64 3) ∧ W.cell? ⟨ub, 4, none⟩ = some (.int .i64 1024) ∧ W.cell? ⟨lb, 0, none⟩ = some (.int .i64 pw) ∧ W.cell? ⟨lb, 1, none⟩ = some (.int .i64 pi) ∧ W.cell? ⟨lb, 2, none⟩ = some (.int .i64 pz) ∧ Below w9.heap.size w9 W)
  (first | exact MF.out _ (by assumption) | exact MF.out _ (Below.drew (by assumption)))
  (first
   | ((go_at_call 27); (with_reducible refine (SAM.out _ (by first | assumption | exact Below.drew (by assumption))).mono ?_); rintro e w11 ⟨rfl, k1⟩; have k7 := (by first | exact KX.out _ _ (by assumption) k1 | exact KX.out _ _ (Below.drew (by assumption)) k1 : Below w9.heap.size w9 w11))
   | ((go_at_call 28); (with_reducible refine (KEP.out _ (by first | assumption | exact Below.drew (by assumption))).mono ?_); rintro e w11 ⟨rfl, k1⟩; have k7 := (by first | exact KX.out _ _ (by assumption) k1 | exact KX.out _ _ (Below.drew (by assumption)) k1 : Below w9.heap.size w9 w11))
   | ((go_at_call_of 23 (Value.agg #[.int .i64 pw, .int .i64 pd, .int .i64 pi, .int .i64 pz, .int .i64 pc])); (with_reducible refine (OW.out _).mono ?_); rintro e w11 ⟨rfl, k1⟩; have k7 := (by first | exact KX.out _ _ (by assumption) k1 | exact KX.out _ _ (Below.drew (by assumption)) k1 : Below w9.heap.size w9 w11))
   | ((go_at_call_of 23 (Value.agg #[.int .i64 7, .int .i64 3, .int .i64 4, .int .i64 3, .int .i64 1024])); (with_reducible refine (OU.out _).mono ?_); rintro e w11 ⟨rfl, k1⟩; have k7 := (by first | exact KX.out _ _ (by assumption) k1 | exact KX.out _ _ (Below.drew (by assumption)) k1 : Below w9.heap.size w9 w11))
   | ((go_at_call 29); (with_reducible refine (PCH.out _).mono ?_); rintro e w11 ⟨rfl, k1⟩; have k7 := (by first | exact KX.out _ _ (by assumption) k1 | exact KX.out _ _ (Below.drew (by assumption)) k1 : Below w9.heap.size w9 w11))
   | ((go_at_call 30); (with_reducible refine (DCH.out _).mono ?_); rintro e w11 ⟨rfl, k1⟩; have k7 := (by first | exact KX.out _ _ (by assumption) k1 | exact KX.out _ _ (Below.drew (by assumption)) k1 : Below w9.heap.size w9 w11))
   | ((go_at_call 31); (with_reducible refine (DU.out _).mono ?_); rintro e w11 ⟨rfl, k1⟩; have k7 := (by first | exact KX.out _ _ (by assumption) k1 | exact KX.out _ _ (Below.drew (by assumption)) k1 : Below w9.heap.size w9 w11))
   | ((go_at_call 32); (with_reducible refine (AWT.out _ (by first | assumption | exact Below.drew (by assumption))).mono ?_); rintro e w11 ⟨rfl, k1⟩; have k7 := (by first | exact KX.out _ _ (by assumption) k1 | exact KX.out _ _ (Below.drew (by assumption)) k1 : Below w9.heap.size w9 w11)))
 go_wp2_with fail
 go_ret
 exact ⟨rfl, FIN.out _ (F10.out.next k7).below⟩
end Go.Proofs.YtflnpcgnenhogaaGreatDoor.ls
