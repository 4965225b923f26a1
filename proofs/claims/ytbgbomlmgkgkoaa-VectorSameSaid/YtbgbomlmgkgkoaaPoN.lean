/- Statement PoolSame: the walk of the law. -/
import Derived.BigQuiet
import Derived.BigRegion
import Derived.Deep.CutRange
import Derived.Deep.CutBlock
import Derived.Test.YtbgbomlmgkgkoaaPoM
import Derived.Test.YtbgbomlmgkgkoaaPoQ
namespace Go.Proofs.Ytbgbomlmgkgkoaa.arcI
open Go.RowKit Go.Proofs.Ytbgbomlmgkgkoaa.own Go.Proofs.Ytbgbomlmgkgkoaa.dv Go.Proofs.Ytbgbomlmgkgkoaa.po

def LQ : Nat → Prop := fun e => e ≤ 95
/-- the law's array of texts -/
def IsA (w : World) (ib : Nat) (V : Nat → ByteArray) : Prop := ∃ cs : Array Value, w.heap[ib]? = some (.cells cs 48 (0, 0)) ∧ ∀ k, k < 24 → cs[k]? = some (.string (V k))
theorem IsA.cell {w : World} {ib : Nat} {V : Nat → ByteArray} (h : IsA w ib V) {k : Nat} (hk : k < 24) : w.cell? ⟨ib, k, none⟩ = some (.string (V k)) ∧ w.frozen? ⟨ib, k, none⟩ = false := by
  obtain ⟨cs, h0, h1⟩ := h
  exact ⟨by rw [cell_of_row w _ _ _ _ _ h0]; exact h1 k hk, frozen_of_row w _ _ _ _ h0⟩
theorem IsA.frame {w w' : World} {ib : Nat} {V : Nat → ByteArray} (h : IsA w ib V) (e : w'.heap[ib]? = w.heap[ib]?) : IsA w' ib V := by
  obtain ⟨cs, h0, h1⟩ := h; exact ⟨cs, e.trans h0, h1⟩
theorem IsA.lt {w : World} {ib : Nat} {V : Nat → ByteArray} (h : IsA w ib V) : ib < w.heap.size := by obtain ⟨_, h0, _⟩ := h; exact lt_of_block h0
theorem IsA.set {w : World} {ib : Nat} {V : Nat → ByteArray} (h : IsA w ib V) {k : Nat} (hk : k < 24) (u : ByteArray) : IsA (w.setCell ⟨ib, k, none⟩ (.string u)) ib (fun j => if j = k then u else V j) := by
  obtain ⟨cs, h0, h1⟩ := h
  refine ⟨cs.setIfInBounds k (.string u), heap_setCell_same w ib k _ _ _ h0, fun j hj => ?_⟩
  show (cs.setIfInBounds k (.string u))[j]? = some (.string (if j = k then u else V j))
  by_cases hjk : j = k
  · subst hjk
    have := h1 j hj
    rw [if_pos rfl, Array.getElem?_setIfInBounds_self_of_lt (Array.getElem?_eq_some_iff.1 this).1]
  · rw [if_neg hjk, Array.getElem?_setIfInBounds_ne (fun e => hjk e.symm)]; exact h1 j hj

structure SS (w : World) (s1 d1 e1 s2 d2 e2 ib N : Nat) (x : Nat → Nat) (A : Sp) (DA : Dev) (B : Sp) (DB : Dev) (V : Nat → ByteArray) (wr : World) : Prop where
  ff : Fr (fun _ => 100) x LQ w wr
  a : SIs x 0 20 wr s1 d1 e1 A DA N
  b : SIs x 50 70 wr s2 d2 e2 B DB N
  xi : x ib = 46
  hi : IsA wr ib V
theorem PC_a : ∀ e, PC 0 20 e → LQ e := fun e he => by
  show e ≤ 95
  rcases he with he | he
  · have := he.2; omega
  · have := he.2; omega
theorem PC_b : ∀ e, PC 50 70 e → LQ e := fun e he => by
  show e ≤ 95
  rcases he with he | he
  · have := he.2; omega
  · have := he.2; omega
theorem PD_ab : ∀ e, PD 50 70 e → ¬ PC 0 20 e := fun e he hc => by
  rcases he with he | he <;> rcases hc with hc | hc
  · have a := he.1.1; have b := hc.2; omega
  · have a := he.1.1; have b := hc.2; omega
  · have a := he.1; have b := hc.2; omega
  · have a := he.1; have b := hc.2; omega
theorem PD_ba : ∀ e, PD 0 20 e → ¬ PC 50 70 e := fun e he hc => by
  rcases he with he | he <;> rcases hc with hc | hc
  · have a := he.1.2; have b := hc.1; omega
  · have a := he.1.2; have b := hc.1; omega
  · have a := he.2; have b := hc.1; omega
  · have a := he.2; have b := hc.1; omega
theorem SS.turnA {w : World} {s1 d1 e1 s2 d2 e2 ib N : Nat} {x x' : Nat → Nat} {A A' : Sp} {DA DA' : Dev} {B : Sp} {DB : Dev} {V : Nat → ByteArray} {wr wc : World} (h : SS w s1 d1 e1 s2 d2 e2 ib N x A DA B DB V wr) (hf : Fr x x' (PC 0 20) wr wc) {N' : Nat} (hs : SIs x' 0 20 wc s1 d1 e1 A' DA' N') (hN : N ≤ N') : SS w s1 d1 e1 s2 d2 e2 ib N' x' A' DA' B DB V wc := by
  have li := h.hi.lt
  have ni : ¬ PC 0 20 (x ib) := by rw [h.xi]; rintro (q | q); exact absurd q.2 (by omega); exact absurd q.2 (by omega)
  exact ⟨h.ff.trans (hf.mono PC_a), hs, (h.b.frame hf PD_ab).mono hN, by rw [hf.col _ li]; exact h.xi, h.hi.frame (hf.old _ li ni)⟩
theorem SS.turnB {w : World} {s1 d1 e1 s2 d2 e2 ib N : Nat} {x x' : Nat → Nat} {A : Sp} {DA : Dev} {B B' : Sp} {DB DB' : Dev} {V : Nat → ByteArray} {wr wc : World} (h : SS w s1 d1 e1 s2 d2 e2 ib N x A DA B DB V wr) (hf : Fr x x' (PC 50 70) wr wc) {N' : Nat} (hs : SIs x' 50 70 wc s2 d2 e2 B' DB' N') (hN : N ≤ N') : SS w s1 d1 e1 s2 d2 e2 ib N' x' A DA B' DB' V wc := by
  have li := h.hi.lt
  have ni : ¬ PC 50 70 (x ib) := by rw [h.xi]; rintro (q | q); exact absurd q.1 (by omega); exact absurd q.1 (by omega)
  exact ⟨h.ff.trans (hf.mono PC_b), (h.a.frame hf PD_ba).mono hN, hs, by rw [hf.col _ li]; exact h.xi, h.hi.frame (hf.old _ li ni)⟩
theorem SS.set {w : World} {s1 d1 e1 s2 d2 e2 ib N : Nat} {x : Nat → Nat} {A : Sp} {DA : Dev} {B : Sp} {DB : Dev} {V : Nat → ByteArray} {wr : World} (h : SS w s1 d1 e1 s2 d2 e2 ib N x A DA B DB V wr) {k : Nat} (hk : k < 24) (u : ByteArray) : SS w s1 d1 e1 s2 d2 e2 ib N x A DA B DB (fun j => if j = k then u else V j) (wr.setCell ⟨ib, k, none⟩ (.string u)) := by
  have f : Fr x x (fun e => e = 46) wr (wr.setCell ⟨ib, k, none⟩ (.string u)) := Fr.same rfl rfl rfl (by simp) (fun b _ hC => Below.heap_setCell wr _ _ _ (by rintro rfl; exact hC h.xi))
  exact ⟨h.ff.trans (f.mono (fun e he => by show e ≤ 95; omega)), h.a.frame f (fun e he hc => by subst hc; rcases he with he | he; exact absurd he.1.2 (by omega); exact absurd he.2 (by omega)), h.b.frame f (fun e he hc => by subst hc; rcases he with he | he; exact absurd he.1.1 (by omega); exact absurd he.1 (by omega)), h.xi, h.hi.set hk u⟩
theorem SS.below {w : World} {s1 d1 e1 s2 d2 e2 ib N : Nat} {x : Nat → Nat} {A : Sp} {DA : Dev} {B : Sp} {DB : Dev} {V : Nat → ByteArray} {wr wc : World} (h : SS w s1 d1 e1 s2 d2 e2 ib N x A DA B DB V wr) (hb : Below wr.heap.size wr wc) : SS w s1 d1 e1 s2 d2 e2 ib N (paint x wr.heap.size 45) A DA B DB V wc :=
  ⟨h.ff.trans (Fr.of_below hb (show 45 ≤ 95 by omega)), h.a.below hb (fun b hb => paint_old hb), h.b.below hb (fun b hb => paint_old hb), by rw [paint_old h.hi.lt]; exact h.xi, h.hi.frame (hb.block _ h.hi.lt)⟩
theorem SS.mono {w : World} {s1 d1 e1 s2 d2 e2 ib N N' : Nat} {x : Nat → Nat} {A : Sp} {DA : Dev} {B : Sp} {DB : Dev} {V : Nat → ByteArray} {wr : World} (h : SS w s1 d1 e1 s2 d2 e2 ib N x A DA B DB V wr) (hN : N ≤ N') : SS w s1 d1 e1 s2 d2 e2 ib N' x A DA B DB V wr :=
  ⟨h.ff, h.a.mono hN, h.b.mono hN, h.xi, h.hi⟩
/-- what both spaces tell -/
structure Both (A : Sp) (DA : Dev) (B : Sp) (DB : Dev) (V : Nat → ByteArray) : Prop where
  a : SameInv A DA
  b : SameInv B DB
  ca : ∀ k : Nat, k < 24 → cont A DA (k : Int) = V k
  cb : ∀ k : Nat, k < 24 → cont B DB (k : Int) = V k

/-! ### a text of noughts -/
theorem dbl_zero (size : Nat) : ∀ (f : Nat) (t : ByteArray), (∀ x ∈ t.data.toList, x = 0) → ∀ x ∈ (dbl size f t).data.toList, x = 0
  | 0, _, h => h
  | f + 1, t, h => by
    show ∀ x ∈ (if t.size < size then dbl size f (t ++ t) else t).data.toList, x = 0
    by_cases hs : t.size < size
    · rw [if_pos hs]
      refine dbl_zero size f _ (fun x hx => ?_)
      rw [ByteArray.data_append, Array.toList_append] at hx
      rcases List.mem_append.1 hx with hx | hx <;> exact h x hx
    · rw [if_neg hs]; exact h
theorem fill_zero (size : Nat) : fillS ⟨#[]⟩ size = zerosB size := by
  have hz : ∀ x ∈ (fillS ⟨#[]⟩ size).data.toList, x = 0 := by
    unfold fillS
    rw [if_pos (show (⟨#[]⟩ : ByteArray).size = 0 from rfl)]
    intro x hx
    have h0 := dbl_zero size size ⟨#[0]⟩ (fun x hx => by simpa using hx)
    rw [ByteArray.data_extract, Array.toList_extract] at hx
    exact h0 x (List.mem_of_mem_take (by simpa using hx))
  have hl := fillS_size ⟨#[]⟩ size
  generalize fillS ⟨#[]⟩ size = t at hz hl
  obtain ⟨d⟩ := t
  have hd : d.toList = List.replicate size 0 := List.eq_replicate_iff.2 ⟨by rw [Array.length_toList]; exact hl, hz⟩
  unfold zerosB
  rw [← hd]

set_option maxRecDepth 100000 in
set_option maxHeartbeats 25600000 in
theorem same_walk (f0 g0 : Int) (aT : Option Addr) (n c : Nat) (hn : n ≤ 9223372036854775807) (K M : Nat → Int) (T : Nat → ByteArray) (w : World) (hops : POps w aT n K M T) :
    Calls Try.prog 5 #[.int .i64 f0, .int .i64 g0, .slice aT n c] w fun e w' => e = .returned (.bool true) ∧ Below w.heap.size w w' := by
  have OPS := Lib.hid hops
  obtain ⟨fr, hfr, s1, s2⟩ := fr30_is f0
  obtain ⟨gr, hgr, t1, t2⟩ := fr30_is g0
  clear hops
  go_enter Try.func5, Try.ntmps5
  go_wp2_with fail
  clear hfr
  have hb0 : Below w.heap.size w (w.alloc (.cells #[.int .i64 24, .int .i64 1] 29)) := (Below.refl _ w).alloc (Nat.le_refl _) _
  have hf0 : Fr (fun _ => 100) (paint (fun _ => 100) w.heap.size 47) LQ w (w.alloc (.cells #[.int .i64 24, .int .i64 1] 29)) := Fr.of_below hb0 (show 47 ≤ 95 by omega)
  have hxg : paint (fun _ => 100) w.heap.size 47 w.heap.size = 47 := paint_new (Nat.le_refl _)
  have hgb := World.alloc_heap_new w (.cells #[.int .i64 24, .int .i64 1] 29)
  have F0 := Lib.hid hf0
  have G0 := Lib.hid hgb
  clear hb0 hf0 hgb
  generalize World.alloc w _ = W0 at F0 G0 ⊢
  generalize paint (fun _ => 100) w.heap.size 47 = x0 at F0 hxg
  have XG := Lib.hid hxg
  clear hxg
  refine (space_gen x0 0 20 30 (.inl (by omega)) (.inl (by omega)) W0 1 fr s1 (by omega) (by omega)).mono ?_
  rintro e w1 ⟨sa, da, ea, x1, rfl, f1, h1, -⟩
  have g1 : w1.heap[w.heap.size]? = some (.cells #[.int .i64 24, .int .i64 1] 29 (0, 0)) := (f1.old _ (lt_of_block G0.out) (by
    rw [XG.out]
    rintro (hc | hc | hc)
    · rcases hc with hc | hc
      · exact absurd hc.2 (by omega)
      · exact absurd hc.2 (by omega)
    · exact absurd hc.2 (by omega)
    · exact absurd hc (by omega))).trans G0.out
  have k0 : w1.cell? ⟨w.heap.size, 0, none⟩ = some (.int .i64 24) := by rw [cell_of_row w1 _ _ _ _ _ g1]; rfl
  have k1 : w1.cell? ⟨w.heap.size, 1, none⟩ = some (.int .i64 1) := by rw [cell_of_row w1 _ _ _ _ _ g1]; rfl
  have LSP : ∀ e, SPC 0 20 30 e → LQ e := fun e he => by
    show e ≤ 95
    rcases he with he | he | he
    · exact PC_a e he
    · have := he.2; omega
    · omega
  have LSQ : ∀ e, SPC 50 70 80 e → LQ e := fun e he => by
    show e ≤ 95
    rcases he with he | he | he
    · exact PC_b e he
    · have := he.2; omega
    · omega
  have F1 := Lib.hid (F0.out.trans (f1.mono LSP))
  have H1 := Lib.hid h1
  clear f1 h1 g1 F0 G0 XG
  go_wp2_with fail
  clear hgr
  refine (space_gen x1 50 70 80 (.inl (by omega)) (.inl (by omega)) w1 1 gr t1 (by omega) (by omega)).mono ?_
  rintro e w2 ⟨sb, db, eb, x2, rfl, f2, h2, -⟩
  have H1 := Lib.hid (H1.out.frame f2 (fun e he hc => by
    rcases hc with hc | hc | hc
    · exact PD_ba e he hc
    · rcases he with he | he
      · have a := he.1.2; have b := hc.1; omega
      · have a := he.2; have b := hc.1; omega
    · subst hc
      rcases he with he | he
      · exact absurd he.1.2 (by omega)
      · exact absurd he.2 (by omega)))
  have F2 := Lib.hid (F1.out.trans (f2.mono LSQ))
  have H2 := Lib.hid h2
  clear f2 h2 F1 k0 k1 LSP LSQ
  go_wp2_with fail
  refine (awake_any w2).mono ?_
  rintro e w3 ⟨rfl, hb3⟩
  have L0 : Hid (SS w sa da ea sb db eb w3.heap.size 0 (paint (paint x2 w2.heap.size 45) w3.heap.size 46) (newP fr) (newD 24 1) (newP gr) (newD 24 1) (fun _ => ⟨#[]⟩) (w3.alloc (.cells (List.replicate 24 (Value.string ⟨#[]⟩)).toArray 48))) := Lib.hid (by
    have f3 : Fr x2 (paint x2 w2.heap.size 45) LQ w2 w3 := Fr.of_below hb3 (show 45 ≤ 95 by omega)
    have a3 := H1.out.below hb3 (x' := paint x2 w2.heap.size 45) (fun b hb => paint_old hb)
    have b3 := H2.out.below hb3 (x' := paint x2 w2.heap.size 45) (fun b hb => paint_old hb)
    have hb4 : Below w3.heap.size w3 (w3.alloc (.cells (List.replicate 24 (Value.string ⟨#[]⟩)).toArray 48)) := (Below.refl _ _).alloc (Nat.le_refl _) _
    have f4 : Fr (paint x2 w2.heap.size 45) (paint (paint x2 w2.heap.size 45) w3.heap.size 46) LQ w3 (w3.alloc (.cells (List.replicate 24 (Value.string ⟨#[]⟩)).toArray 48)) := Fr.of_below hb4 (show 46 ≤ 95 by omega)
    exact ⟨(F2.out.trans f3).trans f4, a3.below hb4 (fun b hb => paint_old hb), b3.below hb4 (fun b hb => paint_old hb), paint_new (Nat.le_refl _), _, World.alloc_heap_new w3 _, fun k hk => by rw [List.getElem?_toArray, List.getElem?_replicate, if_pos hk]⟩)
  clear H1 H2 F2 hb3
  go_wp2_with fail
  have L1 : Hid (SS w sa da ea sb db eb w3.heap.size 0 (paint (paint x2 w2.heap.size 45) w3.heap.size 46) (newP fr) (newD 24 1) (newP gr) (newD 24 1) (fun _ => ⟨#[]⟩) _) := L0
  simp only [List.replicate] at L1
  clear L0
  generalize paint (paint x2 w2.heap.size 45) w3.heap.size 46 = xq at L1
  generalize hib : w3.heap.size = ib at L1 ⊢
  generalize World.alloc w3 _ = w4 at L1 ⊢
  clear hib
  go_loopw [15] (fun i wr => ∃ k : Nat, i = .int .i64 k ∧ k ≤ 24 ∧ ∃ x V, SS w sa da ea sb db eb ib 0 x (newP fr) (newD 24 1) (newP gr) (newD 24 1) V wr ∧ ∀ j, j < k → V j = zerosB 512) (fun i _ => 24 - (intOf i).toNat)
  case atStart => exact ⟨0, rfl, by omega, xq, _, L1.out, fun j hj => absurd hj (Nat.not_lt_zero _)⟩
  case round => as_aux_lemma =>
    obtain ⟨k, rfl, hk, x, V, hS, hV⟩ := hrel
    by_cases hlt : k < 24
    · obtain ⟨kc, kf⟩ := hS.hi.cell hlt
      have S2 := Lib.hid (hS.set hlt (zerosB 512))
      have HV := Lib.hid hV
      have FZ := Lib.hid (fill_zero 512)
      clear hS hV
      go_wp2_with fail
      refine (Fill_any wr ⟨#[]⟩ 512 (by decide) (by omega)).mono ?_
      rintro e w5 ⟨rfl, rfl⟩
      rw [FZ.out]
      go_wp2_with fail
      go_roundw
      case rel => exact ⟨k + 1, by go_num, by omega, x, _, S2.out, fun j hj => by
        show (if j = k then zerosB 512 else V j) = _
        by_cases hjk : j = k
        · rw [if_pos hjk]
        · rw [if_neg hjk]; exact HV.out j (by omega)⟩
      case measure => simp [intOf]; omega
    · obtain rfl : k = 24 := by omega
      rw [show ((24 : Nat) : Int) = (24 : Int) from rfl]
      have B0 : Hid (Both (newP fr) (newD 24 1) (newP gr) (newD 24 1) V) := Lib.hid (by
        have dk := newD_ok 24 1 (by omega) (by omega)
        exact ⟨⟨newP_ok fr s1 (by omega) _ dk rfl, rfl, rfl, fun _ => rfl, s2⟩, ⟨newP_ok gr t1 (by omega) _ dk rfl, rfl, rfl, fun _ => rfl, t2⟩, fun k hk => by rw [hV k hk]; rfl, fun k hk => by rw [hV k hk]; rfl⟩)
      have S0 := Lib.hid hS
      clear hS hV
      generalize newP fr = pa at S0 B0
      generalize newP gr = pq at S0 B0
      generalize newD 24 1 = dn at S0 B0
      go_wp2_with fail
      go_loopw [16] (fun i wq => ∃ j : Nat, i = .int .i64 j ∧ j ≤ n ∧ j ≤ 200 ∧ ∃ x A DA B DB V, SS w sa da ea sb db eb ib (100 * j) x A DA B DB V wq ∧ Both A DA B DB V) (fun i _ => n - (intOf i).toNat)
      case atStart => exact ⟨0, rfl, by omega, by omega, x, pa, dn, pq, dn, V, S0.out, B0.out⟩
      case round => as_aux_lemma =>
        obtain ⟨j, rfl, hj1, hj2, x, A, DA, B, DB, V, hS, hB⟩ := hrel
        have SR := Lib.hid hS
        have BR := Lib.hid hB
        clear hS hB
        by_cases hend : j < n ∧ j < 200
        · obtain ⟨hltn, hl2⟩ := hend
          obtain ⟨b, o, rfl, hbw, e0, e1, e3, hts⟩ := OPS.out j hltn
          have eqb : wr.heap[b]? = w.heap[b]? := SR.out.ff.old b hbw (by show ¬ (100 ≤ 95); omega)
          rw [← World.cell?_of_block (w := w) (w' := wr) eqb] at e0 e1 e3
          obtain ⟨no, hno, hno2⟩ := n_is (M j)
          obtain ⟨kk, hkk⟩ : ∃ kk, K j = kk := ⟨_, rfl⟩
          rw [hkk] at e0
          have hl3i : (j : Int) < 200 := by omega
          clear eqb hkk
          go_upto_block 3 with fail
          go_cut [] from 86 to 199 (fun wc => ∃ x A DA B DB V, SS w sa da ea sb db eb ib (100 * (j + 1)) x A DA B DB V wc ∧ Both A DA B DB V)
          case first => as_aux_lemma =>
            go_wp2_with fail
            clear hno
            refine (Fill_any wr (T j) 512 hts (by omega)).mono ?_
            rintro e w5 ⟨rfl, rfl⟩
            have h24 : (no : Int) < 24 := by omega
            have h0n : (0 : Int) ≤ (no : Int) := by omega
            have hk : KOK (no : Int) := WalkArith.wf_i64 (by omega)
            have hnA : (no : Int) < DA.nb := by rw [BR.out.a.nb]; exact h24
            have hnB : (no : Int) < DB.nb := by rw [BR.out.b.nb]; exact h24
            have hca : (0 : Nat) + 9 < 20 ∨ 20 + 2 < 0 := .inl (by omega)
            have hcb : (50 : Nat) + 9 < 70 ∨ 70 + 2 < 50 := .inl (by omega)
            have UA : Hid ((fillS (T j) 512).size = DA.size) := Lib.hid (by rw [fillS_size]; unfold Dev.size; rw [BR.out.a.ns])
            have UB : Hid ((fillS (T j) 512).size = DB.size) := Lib.hid (by rw [fillS_size]; unfold Dev.size; rw [BR.out.b.ns])
            generalize fillS (T j) 512 = u at UA UB ⊢
            obtain ⟨kc, kf⟩ := SR.out.hi.cell hno2
            have FA := Lib.hid (BR.out.a.free (no : Int))
            have FB := Lib.hid (BR.out.b.free (no : Int))
            by_cases k1 : kk = 1
            · have b1 : (kk == 1) = true := beq_iff_eq.2 k1
              clear k1
              have S0 := Lib.hid (SR.out.set hno2 u)
              have IA := Lib.hid (BR.out.a.write h0n h24 UA.out)
              have IB := Lib.hid (BR.out.b.write h0n h24 UB.out)
              go_wp2_with fail
              refine (SWrite_any x 0 20 sa da ea A DA (100 * j) _ no u S0.out.a BR.out.a.ok hca h0n hnA (by omega) UA.out FA.out).mono ?_
              rintro e w6 ⟨rfl, x6, f6, h6⟩
              have S6 := Lib.hid (S0.out.turnA f6 h6 (by omega))
              clear f6 h6 kc kf
              go_wp2_with fail
              refine (SWrite_any x6 50 70 sb db eb B DB (100 * j + 8) _ no u S6.out.b BR.out.b.ok hcb h0n hnB (by omega) UB.out FB.out).mono ?_
              rintro e w7 ⟨rfl, x7, f7, h7⟩
              have S7 := Lib.hid ((S6.out.turnB f7 h7 (by omega)).mono (show 100 * j + 8 + 8 ≤ 100 * (j + 1) by omega))
              clear f7 h7
              go_wp2_with fail
              go_meet
              case rel => exact ⟨x7, _, _, _, _, _, S7.out, IA.out.1, IB.out.1, fun k hk => by
                rw [IA.out.2 k]
                by_cases hkn : k = no
                · subst hkn; rw [if_pos rfl, if_pos rfl]
                · rw [if_neg (by omega), if_neg hkn]; exact BR.out.ca k hk, fun k hk => by
                rw [IB.out.2 k]
                by_cases hkn : k = no
                · subst hkn; rw [if_pos rfl, if_pos rfl]
                · rw [if_neg (by omega), if_neg hkn]; exact BR.out.cb k hk⟩
            · have b1 : (kk == 1) = false := beq_eq_false_iff_ne.2 k1
              clear k1
              by_cases k5 : kk = 5
              · have b5 : (kk == 5) = true := beq_iff_eq.2 k5
                clear k5
                have S0 := Lib.hid (SR.out.set hno2 u)
                go_wp2_with fail
                refine (SPin_any x 0 20 sa da ea A DA (100 * j) _ no S0.out.a BR.out.a.ok hca h0n hnA (by omega) FA.out).mono ?_
                rintro e w6 ⟨rfl, p, hp, x6, f6, h6⟩
                have S6 := Lib.hid (S0.out.turnA f6 h6 (by omega))
                have QA := Lib.hid (BR.out.a.set3 (u := u) h0n h24 UA.out hp)
                have NA := Lib.hid ((BR.out.a.read h0n h24).1)
                clear f6 h6 kc kf hp
                go_wp2_with fail
                refine (SPin_any x6 50 70 sb db eb B DB (100 * j + 9) _ no S6.out.b BR.out.b.ok hcb h0n hnB (by omega) FB.out).mono ?_
                rintro e w7 ⟨rfl, q, hq, x7, f7, h7⟩
                have S7 := Lib.hid (S6.out.turnB f7 h7 (by omega))
                have QB := Lib.hid (BR.out.b.set3 (u := u) h0n h24 UB.out hq)
                have NB := Lib.hid ((BR.out.b.read h0n h24).1)
                clear f7 h7 hq
                have VA : Hid (u.size = (fetchS A DA no false).1.2.size) := Lib.hid (by rw [UA.out]; unfold Dev.size; rw [NA.out.ns, BR.out.a.ns])
                have VB : Hid (u.size = (fetchS B DB no false).1.2.size) := Lib.hid (by rw [UB.out]; unfold Dev.size; rw [NB.out.ns, BR.out.b.ns])
                go_wp2_with fail
                refine (Set_any x7 0 20 sa da ea _ _ (100 * j + 9 + 9) _ no u S7.out.a QA.out.2.1.dead QA.out.2.1.dev hca hk QA.out.2.2.1 (Nat.succ_pos _) VA.out).mono ?_
                rintro e w8 ⟨rfl, x8, f8, h8⟩
                have S8 := Lib.hid (S7.out.turnA f8 h8 (Nat.le_refl _))
                clear f8 h8
                go_wp2_with fail
                refine (Set_any x8 50 70 sb db eb _ _ (100 * j + 9 + 9) _ no u S8.out.b QB.out.2.1.dead QB.out.2.1.dev hcb hk QB.out.2.2.1 (Nat.succ_pos _) VB.out).mono ?_
                rintro e w9 ⟨rfl, x9, f9, h9⟩
                have S9 := Lib.hid (S8.out.turnB f9 h9 (Nat.le_refl _))
                clear f9 h9
                go_wp2_with fail
                refine (Unpin_any2 x9 0 20 sa da ea _ _ (100 * j + 9 + 9) _ no S9.out.a QA.out.2.2.2.1 hca hk QA.out.2.2.2.2.1 (Nat.succ_pos _) (fun _ => QA.out.2.2.2.2.2.1) (by omega)).mono ?_
                rintro e w10 ⟨rfl, x10, f10, h10⟩
                have S10 := Lib.hid (S9.out.turnA f10 h10 (by omega))
                clear f10 h10
                go_wp2_with fail
                refine (Unpin_any2 x10 50 70 sb db eb _ _ (100 * j + 9 + 9 + 2) _ no S10.out.b QB.out.2.2.2.1 hcb hk QB.out.2.2.2.2.1 (Nat.succ_pos _) (fun _ => QB.out.2.2.2.2.2.1) (by omega)).mono ?_
                rintro e w11 ⟨rfl, x11, f11, h11⟩
                have S11 := Lib.hid ((S10.out.turnB f11 h11 (by omega)).mono (show 100 * j + 9 + 9 + 2 + 2 ≤ 100 * (j + 1) by omega))
                clear f11 h11
                go_wp2_with fail
                go_meet
                case rel => exact ⟨x11, _, _, _, _, _, S11.out, QA.out.2.2.2.2.2.2.1, QB.out.2.2.2.2.2.2.1, fun k hk => by
                  rw [QA.out.2.2.2.2.2.2.2 k]
                  by_cases hkn : k = no
                  · subst hkn; rw [if_pos rfl, if_pos rfl]
                  · rw [if_neg (by omega), if_neg hkn]; exact BR.out.ca k hk, fun k hk => by
                  rw [QB.out.2.2.2.2.2.2.2 k]
                  by_cases hkn : k = no
                  · subst hkn; rw [if_pos rfl, if_pos rfl]
                  · rw [if_neg (by omega), if_neg hkn]; exact BR.out.cb k hk⟩
              · have b5 : (kk == 5) = false := beq_eq_false_iff_ne.2 k5
                clear k5
                by_cases k6 : kk = 6
                · have b6 : (kk == 6) = true := beq_iff_eq.2 k6
                  clear k6
                  have hcnt := BR.out.a.cnt
                  go_wp2_with fail
                  refine (SFlush_any x 0 20 sa da ea A DA (100 * j) wr SR.out.a BR.out.a.ok hca (by omega)).mono ?_
                  rintro e w6 ⟨rfl, ks, -, x6, f6, h6⟩
                  have S6 := Lib.hid ((SR.out.turnA f6 h6 (by omega)).mono (show 100 * j + 2 * A.cnt + 2 ≤ 100 * (j + 1) by omega))
                  have I6 := Lib.hid (BR.out.a.flush ks)
                  clear f6 h6
                  go_wp2_with fail
                  go_meet
                  case rel => exact ⟨x6, _, _, _, _, _, S6.out, I6.out.1, BR.out.b, fun k hk => by rw [I6.out.2 k]; exact BR.out.ca k hk, BR.out.cb⟩
                · have b6 : (kk == 6) = false := beq_eq_false_iff_ne.2 k6
                  clear k6
                  have IA := Lib.hid (BR.out.a.read h0n h24)
                  have IB := Lib.hid (BR.out.b.read h0n h24)
                  go_wp2_with fail
                  refine (SRead_any x 0 20 sa da ea A DA (100 * j) wr no SR.out.a BR.out.a.ok hca h0n hnA (by omega) FA.out).mono ?_
                  rintro e w6 ⟨rfl, x6, f6, h6⟩
                  have S6 := Lib.hid (SR.out.turnA f6 h6 (by omega))
                  clear f6 h6 kc kf
                  rw [BR.out.ca no hno2]
                  go_wp2_with fail
                  refine (SRead_any x6 50 70 sb db eb B DB (100 * j + 8) w6 no S6.out.b BR.out.b.ok hcb h0n hnB (by omega) FB.out).mono ?_
                  rintro e w7 ⟨rfl, x7, f7, h7⟩
                  have S7 := Lib.hid ((S6.out.turnB f7 h7 (by omega)).mono (show 100 * j + 8 + 8 ≤ 100 * (j + 1) by omega))
                  clear f7 h7
                  rw [BR.out.cb no hno2]
                  obtain ⟨kc, kf⟩ := S7.out.hi.cell hno2
                  obtain ⟨vv, hvv⟩ : ∃ vv, V no = vv := ⟨_, rfl⟩
                  rw [hvv] at kc ⊢
                  clear hvv
                  go_wp2_with fail
                  go_meet
                  case rel => exact ⟨x7, _, _, _, _, _, S7.out, IA.out.1, IB.out.1, fun k hk => by rw [IA.out.2 k]; exact BR.out.ca k hk, fun k hk => by rw [IB.out.2 k]; exact BR.out.cb k hk⟩
          case rest => as_aux_lemma =>
            obtain ⟨x2, A2, DA2, B2, DB2, V2, hS2, hB2⟩ := hcut
            have S2 := Lib.hid hS2
            have B2 := Lib.hid hB2
            clear hS2 hB2
            go_wp2_with fail
            go_roundw
            case rel => exact ⟨j + 1, by go_num, by omega, by omega, x2, _, _, _, _, _, S2.out, B2.out⟩
            case measure => simp [intOf]; omega
        · have hcases : ¬ j < n ∨ (j < n ∧ ¬ j < 200) := by omega
          have h2000 : 100 * j ≤ 20000 := by omega
          clear hend
          generalize 100 * j = NN at SR h2000
          obtain h1 | ⟨h1, h2⟩ := hcases
          · go_wp2_with fail
            go_loopw [23] (fun i wq => ∃ m : Nat, i = .int .i64 m ∧ m ≤ 24 ∧ ∃ x A DA B DB, SS w sa da ea sb db eb ib (NN + 20 * m) x A DA B DB V wq ∧ Both A DA B DB V) (fun i _ => 24 - (intOf i).toNat)
            case atStart => exact ⟨0, rfl, by omega, x, A, DA, B, DB, SR.out, BR.out⟩
            case round => as_aux_lemma =>
              obtain ⟨m, rfl, hm, x, A, DA, B, DB, hS, hB⟩ := hrel
              have SR := Lib.hid hS
              have BR := Lib.hid hB
              clear hS hB
              by_cases hlt : m < 24
              · have h24 : (m : Int) < 24 := by omega
                have h0n : (0 : Int) ≤ (m : Int) := by omega
                have hnA : (m : Int) < DA.nb := by rw [BR.out.a.nb]; exact h24
                have hnB : (m : Int) < DB.nb := by rw [BR.out.b.nb]; exact h24
                have hca : (0 : Nat) + 9 < 20 ∨ 20 + 2 < 0 := .inl (by omega)
                have hcb : (50 : Nat) + 9 < 70 ∨ 70 + 2 < 50 := .inl (by omega)
                have FA := Lib.hid (BR.out.a.free (m : Int))
                have FB := Lib.hid (BR.out.b.free (m : Int))
                have IA := Lib.hid (BR.out.a.read h0n h24)
                have IB := Lib.hid (BR.out.b.read h0n h24)
                go_wp2_with fail
                refine (SRead_any x 0 20 sa da ea A DA (NN + 20 * m) _ m SR.out.a BR.out.a.ok hca h0n hnA (by omega) FA.out).mono ?_
                rintro e w6 ⟨rfl, x6, f6, h6⟩
                have S6 := Lib.hid (SR.out.turnA f6 h6 (by omega))
                clear f6 h6
                rw [BR.out.ca m hlt]
                go_wp2_with fail
                refine (SRead_any x6 50 70 sb db eb B DB (NN + 20 * m + 8) w6 m S6.out.b BR.out.b.ok hcb h0n hnB (by omega) FB.out).mono ?_
                rintro e w7 ⟨rfl, x7, f7, h7⟩
                have S7 := Lib.hid ((S6.out.turnB f7 h7 (by omega)).mono (show NN + 20 * m + 8 + 8 ≤ NN + 20 * (m + 1) by omega))
                clear f7 h7
                rw [BR.out.cb m hlt]
                obtain ⟨kc, kf⟩ := S7.out.hi.cell hlt
                obtain ⟨vv, hvv⟩ : ∃ vv, V m = vv := ⟨_, rfl⟩
                rw [hvv] at kc ⊢
                clear hvv
                go_wp2_with fail
                go_roundw
                case rel => exact ⟨m + 1, by go_num, by omega, x7, _, _, _, _, S7.out, IA.out.1, IB.out.1, fun k hk => by rw [IA.out.2 k]; exact BR.out.ca k hk, fun k hk => by rw [IB.out.2 k]; exact BR.out.cb k hk⟩
                case measure => simp [intOf]; omega
              · obtain rfl : m = 24 := by omega
                go_wp2_with fail
                go_ret
                exact ⟨rfl, SR.out.ff.below_all (fun b _ hC => by have : (100 : Nat) ≤ 95 := hC; omega)⟩
          · go_wp2_with fail
            go_loopw [23] (fun i wq => ∃ m : Nat, i = .int .i64 m ∧ m ≤ 24 ∧ ∃ x A DA B DB, SS w sa da ea sb db eb ib (NN + 20 * m) x A DA B DB V wq ∧ Both A DA B DB V) (fun i _ => 24 - (intOf i).toNat)
            case atStart => exact ⟨0, rfl, by omega, x, A, DA, B, DB, SR.out, BR.out⟩
            case round => as_aux_lemma =>
              obtain ⟨m, rfl, hm, x, A, DA, B, DB, hS, hB⟩ := hrel
              have SR := Lib.hid hS
              have BR := Lib.hid hB
              clear hS hB
              by_cases hlt : m < 24
              · have h24 : (m : Int) < 24 := by omega
                have h0n : (0 : Int) ≤ (m : Int) := by omega
                have hnA : (m : Int) < DA.nb := by rw [BR.out.a.nb]; exact h24
                have hnB : (m : Int) < DB.nb := by rw [BR.out.b.nb]; exact h24
                have hca : (0 : Nat) + 9 < 20 ∨ 20 + 2 < 0 := .inl (by omega)
                have hcb : (50 : Nat) + 9 < 70 ∨ 70 + 2 < 50 := .inl (by omega)
                have FA := Lib.hid (BR.out.a.free (m : Int))
                have FB := Lib.hid (BR.out.b.free (m : Int))
                have IA := Lib.hid (BR.out.a.read h0n h24)
                have IB := Lib.hid (BR.out.b.read h0n h24)
                go_wp2_with fail
                refine (SRead_any x 0 20 sa da ea A DA (NN + 20 * m) _ m SR.out.a BR.out.a.ok hca h0n hnA (by omega) FA.out).mono ?_
                rintro e w6 ⟨rfl, x6, f6, h6⟩
                have S6 := Lib.hid (SR.out.turnA f6 h6 (by omega))
                clear f6 h6
                rw [BR.out.ca m hlt]
                go_wp2_with fail
                refine (SRead_any x6 50 70 sb db eb B DB (NN + 20 * m + 8) w6 m S6.out.b BR.out.b.ok hcb h0n hnB (by omega) FB.out).mono ?_
                rintro e w7 ⟨rfl, x7, f7, h7⟩
                have S7 := Lib.hid ((S6.out.turnB f7 h7 (by omega)).mono (show NN + 20 * m + 8 + 8 ≤ NN + 20 * (m + 1) by omega))
                clear f7 h7
                rw [BR.out.cb m hlt]
                obtain ⟨kc, kf⟩ := S7.out.hi.cell hlt
                obtain ⟨vv, hvv⟩ : ∃ vv, V m = vv := ⟨_, rfl⟩
                rw [hvv] at kc ⊢
                clear hvv
                go_wp2_with fail
                go_roundw
                case rel => exact ⟨m + 1, by go_num, by omega, x7, _, _, _, _, S7.out, IA.out.1, IB.out.1, fun k hk => by rw [IA.out.2 k]; exact BR.out.ca k hk, fun k hk => by rw [IB.out.2 k]; exact BR.out.cb k hk⟩
                case measure => simp [intOf]; omega
              · obtain rfl : m = 24 := by omega
                go_wp2_with fail
                go_ret
                exact ⟨rfl, SR.out.ff.below_all (fun b _ hC => by have : (100 : Nat) ≤ 95 := hC; omega)⟩

end Go.Proofs.Ytbgbomlmgkgkoaa.arcI
