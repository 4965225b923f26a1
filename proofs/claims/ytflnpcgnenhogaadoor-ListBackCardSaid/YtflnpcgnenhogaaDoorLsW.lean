/- list: ReadHead. -/
import Derived.Test.YtflnpcgnenhogaaDoorLsV
import Derived.Test.YtflnpcgnenhogaaDoorLsJ
namespace Go.Proofs.YtflnpcgnenhogaaDoor.ls
open Go.RowKit Go.Proofs.YtflnpcgnenhogaaDoor.own Go.Proofs.YtflnpcgnenhogaaDoor.bit

/-- a reader and rows beside it, made since w -/
def RE (x : Nat → Nat) (d t u : Nat) (w : World) (rb : Nat) (s : ByteArray) (a : Nat) (ks : List (Nat × Obj)) (W : World) : Prop :=
  ∃ x', Fr x x' (fun e => e = d ∨ e = t ∨ e = u) w W ∧ RdC x' d W rb s a ∧ ∀ p ∈ ks, x' p.1 = u ∧ W.heap[p.1]? = some p.2
theorem RE.start {x : Nat → Nat} {d t u : Nat} {w W : World} {rb a : Nat} {s : ByteArray} (h : RdC x d w rb s a) (k : Below w.heap.size w W) (ks : List (Nat × Obj)) (hk : ∀ p ∈ ks, w.heap.size ≤ p.1 ∧ W.heap[p.1]? = some p.2) : RE x d t u w rb s a ks W := by
  obtain ⟨h1, h2, h3⟩ := h
  have f2 : Fr x (paint x w.heap.size u) (fun e => e = u) w W := Fr.of_below k rfl
  exact ⟨_, f2.mono (fun c hc => .inr (.inr hc)), ⟨(k.block _ (lt_of_block h1)).trans h1, (paint_old (lt_of_block h1)).trans h2, h3⟩, fun p hp => ⟨paint_new (hk p hp).1, (hk p hp).2⟩⟩
theorem RE.row {x : Nat → Nat} {d t u : Nat} {w W : World} {rb a : Nat} {s : ByteArray} {ks : List (Nat × Obj)} (h : RE x d t u w rb s a ks W) {b : Nat} {o : Obj} (hm : (b, o) ∈ ks) : W.heap[b]? = some o := by
  obtain ⟨x', _, _, hk⟩ := h
  exact (hk _ hm).2
theorem RE.le {x : Nat → Nat} {d t u : Nat} {w W : World} {rb a : Nat} {s : ByteArray} {ks : List (Nat × Obj)} (h : RE x d t u w rb s a ks W) : a ≤ 8 * s.size := by
  obtain ⟨x', _, hr, _⟩ := h
  exact hr.2.2.1
theorem RE.next {x : Nat → Nat} {d t u : Nat} {w W W' : World} {rb a : Nat} {s : ByteArray} {ks : List (Nat × Obj)} (h : RE x d t u w rb s a ks W) (k : Below W.heap.size W W') : RE x d t u w rb s a ks W' := by
  obtain ⟨x', hf, ⟨h1, h2, h3⟩, hk⟩ := h
  have f2 : Fr x' (paint x' W.heap.size u) (fun e => e = u) W W' := Fr.of_below k rfl
  refine ⟨_, hf.trans (f2.mono (fun c hc => .inr (.inr hc))), ⟨(k.block _ (lt_of_block h1)).trans h1, (paint_old (lt_of_block h1)).trans h2, h3⟩, fun p hp => ?_⟩
  obtain ⟨h4, h5⟩ := hk p hp
  exact ⟨(paint_old (lt_of_block h5)).trans h4, (k.block _ (lt_of_block h5)).trans h5⟩
theorem RE.at_ {x : Nat → Nat} {d t u : Nat} {w W : World} {rb a : Nat} {s : ByteArray} {ks : List (Nat × Obj)} (h : RE x d t u w rb s a ks W) :
    Calls Tryd.prog 24 #[.pointer (some ⟨rb, 0, none⟩)] W fun e w' => e = .returned (.int .i64 (a : Int)) ∧ W = w' := by
  obtain ⟨x', _, hr, _⟩ := h
  exact At_any x' d W rb s a hr
theorem RE.read {x : Nat → Nat} {d t u : Nat} (hdt : d ≠ t) (hdu : d ≠ u) (htu : t ≠ u) {w W : World} {rb a : Nat} {s : ByteArray} {ks : List (Nat × Obj)} (h : RE x d t u w rb s a ks W) (c : Cd) (hc : c.ok) :
    Calls Tryd.prog 39 #[.pointer (some ⟨rb, 0, none⟩), cdV c] W fun e w' => e = .returned (rdV (rd c ((unpack (nats s)).drop a))) ∧ RE x d t u w rb s (rdA a (rd c ((unpack (nats s)).drop a))) ks w' := by
  obtain ⟨x', hf, hr, hk⟩ := h
  refine (cread_any x' d t hdt c hc W rb s a hr).mono ?_
  rintro e w' ⟨rfl, x2, f2, h2⟩
  refine ⟨rfl, x2, hf.trans (f2.mono (fun c hc => by rcases hc with h | h; exact .inl h; exact .inr (.inl h))), h2, fun p hp => ?_⟩
  obtain ⟨h1, h3⟩ := hk p hp
  exact ⟨(f2.col _ (lt_of_block h3)).trans h1, (f2.old _ (lt_of_block h3) (by show ¬ (x' p.1 = d ∨ x' p.1 = t); rw [h1]; rintro (e | e); exact hdu e.symm; exact htu e.symm)).trans h3⟩
theorem RE.seek {x : Nat → Nat} {d t u : Nat} (hdu : d ≠ u) {w W : World} {rb a : Nat} {s : ByteArray} {ks : List (Nat × Obj)} (h : RE x d t u w rb s a ks W) (a0 : Nat) (ha : a0 ≤ 8 * s.size) :
    Calls Tryd.prog 40 #[.pointer (some ⟨rb, 0, none⟩), .int .i64 (a0 : Int)] W fun e w' => e = .returned (.int .i64 0) ∧ RE x d t u w rb s a0 ks w' := by
  obtain ⟨x', hf, hr, hk⟩ := h
  refine (Seek_any x' d s a a0 rb W hr ha).mono ?_
  rintro e w' ⟨rfl, f2, h2⟩
  refine ⟨rfl, x', hf.trans (f2.mono (fun c hc => .inl hc)), h2, fun p hp => ?_⟩
  obtain ⟨h1, h3⟩ := hk p hp
  exact ⟨h1, (f2.old _ (lt_of_block h3) (by show ¬ x' p.1 = d; rw [h1]; exact fun e => hdu e.symm)).trans h3⟩

theorem RE.set2 {x : Nat → Nat} {d t u : Nat} (hdu : d ≠ u) {w W : World} {rb a : Nat} {s : ByteArray} {ks : List (Nat × Obj)} (h : RE x d t u w rb s a ks W) {b : Nat} {v0 v1 : Value} {T : TypeId} (hm : (b, Obj.cells #[v0, v1] T (0, 0)) ∈ ks) (a0 a1 : Value) :
    RE x d t u w rb s a [(b, .cells #[a0, a1] T (0, 0))] ((W.setCell ⟨b, 0, none⟩ a0).setCell ⟨b, 1, none⟩ a1) := by
  obtain ⟨x', hf, ⟨hr1, hr2, hr3⟩, hk⟩ := h
  obtain ⟨hx, hb⟩ := hk _ hm
  have ne : ∀ c, c ≠ b → ((W.setCell ⟨b, 0, none⟩ a0).setCell ⟨b, 1, none⟩ a1).heap[c]? = W.heap[c]? := fun c hc => (Below.heap_setCell _ ⟨b, 1, none⟩ _ c hc).trans (Below.heap_setCell W ⟨b, 0, none⟩ _ c hc)
  have f2 : Fr x' x' (fun c => c = u) W ((W.setCell ⟨b, 0, none⟩ a0).setCell ⟨b, 1, none⟩ a1) := Fr.same rfl rfl rfl (by simp) (fun c _ hd => ne c (fun e => hd (by rw [e]; exact hx)))
  refine ⟨x', hf.trans (f2.mono (fun c hc => .inr (.inr hc))), ⟨(ne _ (fun e => by rw [e] at hr2; exact hdu (hr2.symm.trans hx))).trans hr1, hr2, hr3⟩, fun q hq => ?_⟩
  simp only [List.mem_cons, List.not_mem_nil, or_false] at hq
  subst hq
  refine ⟨hx, ?_⟩
  show ((W.setCell ⟨b, 0, none⟩ a0).setCell ⟨b, 1, none⟩ a1).heap[b]? = _
  have h1 : (W.setCell ⟨b, 0, none⟩ a0).heap[b]? = some (.cells #[a0, v1] T (0, 0)) := by rw [heap_setCell_same W b 0 _ _ _ hb]; rfl
  rw [heap_setCell_same _ b 1 _ _ _ h1]
  rfl

/-- a head as bits tell it: degree, reference, the place behind -/
def hread (win : Nat) (B : Bits) (a : Nat) : Option (Nat × Nat × Nat) :=
  (rd .gam (B.drop a)).bind fun q => if 0 < q.1 ∧ 0 < win then (rd .una (B.drop (a + q.2))).bind fun q2 => if q.1 ≤ 65536 ∧ q2.1 ≤ win then some (q.1, q2.1, a + q.2 + q2.2) else none
    else if q.1 ≤ 65536 then some (q.1, 0, a + q.2) else none
def hrV : Option (Nat × Nat × Nat) → Value
  | some q => .tuple #[.agg #[.int .i64 (q.1 : Int), .int .i64 (q.2.1 : Int)], .int .i64 0]
  | none => .tuple #[.agg #[.int .i64 0, .int .i64 0], .int .i64 4]
def hrA (a : Nat) : Option (Nat × Nat × Nat) → Nat
  | some q => q.2.2
  | none => a
set_option maxRecDepth 100000 in
set_option maxHeartbeats 6400000 in
theorem head_any (x0 : Nat → Nat) (d t u : Nat) (hdt : d ≠ t) (hdu : d ≠ u) (htu : t ≠ u) (p : Pr) (hp : p.ok) (w : World) (hG : GL w) (hgl : x0 0 ≠ d ∧ x0 0 ≠ t ∧ x0 0 ≠ u ∧ x0 1 ≠ d ∧ x0 1 ≠ t ∧ x0 1 ≠ u) (rb : Nat) (s : ByteArray) (a : Nat) (h : RdC x0 d w rb s a) :
    Calls Tryd.prog 21 #[.pointer (some ⟨rb, 0, none⟩), parV (p.win : Int) (p.itv : Int) (p.zet : Int)] w fun e w' =>
      e = .returned (hrV (hread p.win (unpack (nats s)) a)) ∧ ∃ x', Fr x0 x' (fun e => e = d ∨ e = t ∨ e = u) w w' ∧ RdC x' d w' rb s (hrA a (hread p.win (unpack (nats s)) a)) := by
  obtain ⟨hp1, hp2, hp3⟩ := hp
  have CK := Lib.hid (fun W => pcheck_any (p.win : Int) (p.itv : Int) (p.zet : Int) W)
  rw [if_pos (show ParOk (p.win : Int) (p.itv : Int) (p.zet : Int) from ⟨by omega, by omega, by omega, by omega, by omega⟩)] at CK
  have GF := Lib.hid (fun (W : World) (a' : Nat) (ks : List (Nat × Obj)) (h : RE x0 d t u w rb s a' ks W) => show GL W from by
    obtain ⟨x', hf, _⟩ := h
    have b0 : w.heap[0]? = w.heap[0]? := rfl
    have k0 := hf.old 0 (World.block_lt_of_cell? _ _ hG.g0) (by rintro (e | e | e); exact hgl.1 e; exact hgl.2.1 e; exact hgl.2.2.1 e)
    have k1 := hf.old 1 (World.block_lt_of_cell? _ _ hG.u0) (by rintro (e | e | e); exact hgl.2.2.2.1 e; exact hgl.2.2.2.2.1 e; exact hgl.2.2.2.2.2 e)
    exact ⟨(World.cell?_of_block (w := w) k0).trans hG.g0, (World.cell?_of_block (w := w) k0).trans hG.g1, (World.cell?_of_block (w := w) k1).trans hG.u0, (World.cell?_of_block (w := w) k1).trans hG.u1⟩)
  have D := Lib.hid (And.intro hdt (And.intro hdu htu))
  have H := Lib.hid h
  have HB := Lib.hid (fun v n a' (h : rd .gam ((unpack (nats s)).drop a') = some (v, n)) => rd_bound .gam trivial h)
  have HB2 := Lib.hid (fun v n a' (h : rd .una ((unpack (nats s)).drop a') = some (v, n)) => rd_bound .una trivial h)
  obtain ⟨B, hB⟩ : ∃ B, unpack (nats s) = B := ⟨_, rfl⟩
  have HBB := Lib.hid hB
  rw [hB] at HB HB2 ⊢
  have RDf := Lib.hid (fun (W : World) (a' : Nat) (ks : List (Nat × Obj)) (c : Cd) (hc : c.ok) (h : RE x0 d t u w rb s a' ks W) => h.read hdt hdu htu c hc)
  rw [hB] at RDf
  have ha := h.2.2.1
  obtain ⟨win, itv, zet⟩ := p
  unfold parV at CK ⊢
  dsimp only at hp1 hp2 hp3 CK ⊢
  obtain ⟨A, hA⟩ : ∃ A, hread win B a = A := ⟨_, rfl⟩
  have HA := Lib.hid hA
  rw [hA]
  clear hG hgl hdt hdu htu h hB hA
  go_enter Tryd.func21, Tryd.ntmps21
  go_upto_region 1 with fail
  generalize hW : World.alloc (World.alloc w _) _ = W0
  obtain ⟨r1, r2, kb⟩ := rows2 hW
  obtain ⟨sz, hsz⟩ : ∃ z, w.heap.size = z := ⟨_, rfl⟩
  have E0 := Lib.hid (RE.start (t := t) (u := u) H.out kb [(sz, .cells #[.int .i64 (win : Int), .int .i64 (itv : Int), .int .i64 (zet : Int)] 38 (0, 0)), (sz + 1, .cells #[.int .i64 0, .int .i64 0] 55 (0, 0))] (fun q hq => by
    simp only [List.mem_cons, List.not_mem_nil, or_false] at hq
    rcases hq with rfl | rfl
    · exact ⟨by show w.heap.size ≤ sz; omega, hsz ▸ r1⟩
    · exact ⟨by show w.heap.size ≤ sz + 1; omega, hsz ▸ r2⟩))
  rw [hsz] at r1 r2 ⊢
  obtain ⟨ks, hks⟩ : ∃ ks, ks = [(sz, Obj.cells #[.int .i64 (win : Int), .int .i64 (itv : Int), .int .i64 (zet : Int)] 38 (0, 0)), (sz + 1, .cells #[.int .i64 0, .int .i64 0] 55 (0, 0))] := ⟨_, rfl⟩
  have M1 : Hid ((sz, Obj.cells #[.int .i64 (win : Int), .int .i64 (itv : Int), .int .i64 (zet : Int)] 38 (0, 0)) ∈ ks) := Lib.hid (by rw [hks]; simp)
  have M2 : Hid ((sz + 1, Obj.cells #[.int .i64 0, .int .i64 0] 55 (0, 0)) ∈ ks) := Lib.hid (by rw [hks]; simp)
  rw [← hks] at E0
  have c0 : W0.cell? ⟨sz, 0, none⟩ = some (.int .i64 (win : Int)) := by rw [cell_of_row _ _ _ _ _ _ r1]; rfl
  have c1 : W0.cell? ⟨sz, 1, none⟩ = some (.int .i64 (itv : Int)) := by rw [cell_of_row _ _ _ _ _ _ r1]; rfl
  have c2 : W0.cell? ⟨sz, 2, none⟩ = some (.int .i64 (zet : Int)) := by rw [cell_of_row _ _ _ _ _ _ r1]; rfl
  clear hW r1 r2 kb hks hsz
  go_wp2_with fail
  with_reducible refine (CK.out _).mono ?_
  rintro e w1 ⟨rfl, k1⟩
  have E1 := Lib.hid (E0.out.next k1)
  clear c0 c1 c2 k1 E0
  go_wp2_with fail
  with_reducible refine E1.out.at_.mono ?_
  rintro e w2 ⟨rfl, rfl⟩
  have g1 := GF.out _ _ _ E1.out
  have gg0 := g1.g0
  have gg1 := g1.g1
  have RG := Lib.hid (RDf.out _ _ _ .gam trivial E1.out)
  clear g1
  obtain ⟨o1, ho1⟩ : ∃ o, rd .gam (B.drop a) = o := ⟨_, rfl⟩
  have HO1 := Lib.hid ho1
  rw [ho1] at RG
  unfold cdV at RG
  clear ho1
  go_wp2_with fail
  with_reducible refine RG.out.mono ?_
  rintro e w3 ⟨rfl, h3⟩
  have E3 := Lib.hid h3
  clear h3 gg0 gg1 RG E1
  cases o1 with
  | none =>
    have AN : Hid (A = none) := Lib.hid (by rw [← HA.out]; unfold hread; rw [HO1.out]; rfl)
    unfold rdV
    have SK := Lib.hid (E3.out.seek D.out.2.1 a ha)
    go_wp2_with fail
    with_reducible refine SK.out.mono ?_
    rintro e w9 ⟨rfl, h4⟩
    have E4 := Lib.hid h4
    clear h4
    have r4 := E4.out.row M2.out
    have q0 : w9.cell? ⟨sz + 1, 0, none⟩ = some (.int .i64 0) := by rw [cell_of_row _ _ _ _ _ _ r4]; rfl
    have q1 : w9.cell? ⟨sz + 1, 1, none⟩ = some (.int .i64 0) := by rw [cell_of_row _ _ _ _ _ _ r4]; rfl
    have qf : ∀ j, w9.frozen? ⟨sz + 1, j, none⟩ = false := fun j => frozen_of_row w9 _ j _ _ r4
    clear r4
    go_wp2_with fail
    have E5 := Lib.hid (E4.out.set2 D.out.2.1 M2.out (.int .i64 0) (.int .i64 0))
    have r5 := E5.out.row (List.mem_cons_self ..)
    generalize World.setCell (World.setCell _ _ _) _ _ = W5 at r5 E5 ⊢
    have q0 : W5.cell? ⟨sz + 1, 0, none⟩ = some (.int .i64 0) := by rw [cell_of_row _ _ _ _ _ _ r5]; rfl
    have q1 : W5.cell? ⟨sz + 1, 1, none⟩ = some (.int .i64 0) := by rw [cell_of_row _ _ _ _ _ _ r5]; rfl
    rw [AN.out]
    refine bodyPost_ret (v := hrV none) (by simp [results, Tryd.results21, go_sem, hrV, q0, q1]) rfl ⟨rfl, ?_⟩
    obtain ⟨x', hf, hr, _⟩ := E5.out
    exact ⟨x', hf, hr⟩
  | some q =>
    obtain ⟨v, n1⟩ := q
    have hv : v ≤ 281474976710654 := (HB.out _ _ _ HO1.out).1
    unfold rdV
    dsimp only [rdA] at E3 ⊢
    by_cases hc : 0 < v ∧ 0 < win
    · obtain ⟨hv0, hw0⟩ := hc
      have rc := E3.out.row M1.out
      have c0 : w3.cell? ⟨sz, 0, none⟩ = some (.int .i64 (win : Int)) := by rw [cell_of_row _ _ _ _ _ _ rc]; rfl
      clear rc
      have g1 := GF.out _ _ _ E3.out
      have gu0 := g1.u0
      have gu1 := g1.u1
      clear g1
      have RU := Lib.hid (RDf.out _ _ _ .una trivial E3.out)
      obtain ⟨o2, ho2⟩ : ∃ o, rd .una (B.drop (a + n1)) = o := ⟨_, rfl⟩
      have HO2 := Lib.hid ho2
      rw [ho2] at RU
      unfold cdV at RU
      have AH : Hid (A = o2.bind fun q2 => if v ≤ 65536 ∧ q2.1 ≤ win then some (v, q2.1, a + n1 + q2.2) else none) := Lib.hid (by rw [← HA.out]; unfold hread; rw [HO1.out, Option.bind_some, if_pos ⟨hv0, hw0⟩]; dsimp only; rw [ho2])
      clear ho2
      have i1 : decide ((0 : Int) < (v : Int)) = true := decide_eq_true (by omega)
      have i1n : decide (0 < v) = true := decide_eq_true (by omega)
      have i2 : decide ((0 : Int) < (win : Int)) = true := decide_eq_true (by omega)
      have i2n : decide (0 < win) = true := decide_eq_true (by omega)
      go_wp2_with fail
      with_reducible refine RU.out.mono ?_
      rintro e w5 ⟨rfl, h5⟩
      have E6 := Lib.hid h5
      clear h5 RU gu0 gu1 c0 i1 i1n i2 i2n
      have rc := E6.out.row M1.out
      have c0 : w5.cell? ⟨sz, 0, none⟩ = some (.int .i64 (win : Int)) := by rw [cell_of_row _ _ _ _ _ _ rc]; rfl
      clear rc
      cases o2 with
      | none =>
        have AN : Hid (A = none) := Lib.hid (by rw [AH.out]; rfl)
        unfold rdV
        have SK := Lib.hid (E6.out.seek D.out.2.1 a ha)
        go_wp2_with fail
        with_reducible refine SK.out.mono ?_
        rintro e w9 ⟨rfl, h4⟩
        have E4 := Lib.hid h4
        clear h4
        have r4 := E4.out.row M2.out
        have q0 : w9.cell? ⟨sz + 1, 0, none⟩ = some (.int .i64 0) := by rw [cell_of_row _ _ _ _ _ _ r4]; rfl
        have q1 : w9.cell? ⟨sz + 1, 1, none⟩ = some (.int .i64 0) := by rw [cell_of_row _ _ _ _ _ _ r4]; rfl
        have qf : ∀ j, w9.frozen? ⟨sz + 1, j, none⟩ = false := fun j => frozen_of_row w9 _ j _ _ r4
        clear r4
        go_wp2_with fail
        have E5 := Lib.hid (E4.out.set2 D.out.2.1 M2.out (.int .i64 0) (.int .i64 0))
        have r5 := E5.out.row (List.mem_cons_self ..)
        generalize World.setCell (World.setCell _ _ _) _ _ = W5 at r5 E5 ⊢
        have q0 : W5.cell? ⟨sz + 1, 0, none⟩ = some (.int .i64 0) := by rw [cell_of_row _ _ _ _ _ _ r5]; rfl
        have q1 : W5.cell? ⟨sz + 1, 1, none⟩ = some (.int .i64 0) := by rw [cell_of_row _ _ _ _ _ _ r5]; rfl
        rw [AN.out]
        refine bodyPost_ret (v := hrV none) (by simp [results, Tryd.results21, go_sem, hrV, q0, q1]) rfl ⟨rfl, ?_⟩
        obtain ⟨x', hf, hr, _⟩ := E5.out
        exact ⟨x', hf, hr⟩
      | some q2 =>
        obtain ⟨r, n2⟩ := q2
        have hr : r ≤ 65535 := (HB2.out _ _ _ HO2.out).1
        unfold rdV
        dsimp only [rdA] at E6 ⊢
        by_cases hv6 : v ≤ 65536
        · by_cases hrw : r ≤ win
          · have AN : Hid (A = some (v, r, a + n1 + n2)) := Lib.hid (by rw [AH.out, Option.bind_some, if_pos ⟨hv6, hrw⟩])
            have i3 : decide ((65536 : Int) < (v : Int)) = false := decide_eq_false (by omega)
            have i3n : decide (65536 < v) = false := decide_eq_false (by omega)
            have i4 : decide ((win : Int) < (r : Int)) = false := decide_eq_false (by omega)
            have i4n : decide (win < r) = false := decide_eq_false (by omega)
            have r4 := E6.out.row M2.out
            have q0 : w5.cell? ⟨sz + 1, 0, none⟩ = some (.int .i64 0) := by rw [cell_of_row _ _ _ _ _ _ r4]; rfl
            have q1 : w5.cell? ⟨sz + 1, 1, none⟩ = some (.int .i64 0) := by rw [cell_of_row _ _ _ _ _ _ r4]; rfl
            have qf : ∀ j, w5.frozen? ⟨sz + 1, j, none⟩ = false := fun j => frozen_of_row w5 _ j _ _ r4
            clear r4
            go_wp2_with fail
            have E5 := Lib.hid (E6.out.set2 D.out.2.1 M2.out (.int .i64 (v : Int)) (.int .i64 (r : Int)))
            have r5 := E5.out.row (List.mem_cons_self ..)
            generalize World.setCell (World.setCell _ _ _) _ _ = W5 at r5 E5 ⊢
            have q0 : W5.cell? ⟨sz + 1, 0, none⟩ = some (.int .i64 (v : Int)) := by rw [cell_of_row _ _ _ _ _ _ r5]; rfl
            have q1 : W5.cell? ⟨sz + 1, 1, none⟩ = some (.int .i64 (r : Int)) := by rw [cell_of_row _ _ _ _ _ _ r5]; rfl
            rw [AN.out]
            refine bodyPost_ret (v := hrV (some (v, r, a + n1 + n2))) (by simp [results, Tryd.results21, go_sem, hrV, q0, q1]) rfl ⟨rfl, ?_⟩
            obtain ⟨x', hf, hr, _⟩ := E5.out
            exact ⟨x', hf, hr⟩
          · have AN : Hid (A = none) := Lib.hid (by rw [AH.out, Option.bind_some, if_neg (fun h => hrw h.2)])
            have i3 : decide ((65536 : Int) < (v : Int)) = false := decide_eq_false (by omega)
            have i3n : decide (65536 < v) = false := decide_eq_false (by omega)
            have i4 : decide ((win : Int) < (r : Int)) = true := decide_eq_true (by omega)
            have i4n : decide (win < r) = true := decide_eq_true (by omega)
            have SK := Lib.hid (E6.out.seek D.out.2.1 a ha)
            go_wp2_with fail
            with_reducible refine SK.out.mono ?_
            rintro e w9 ⟨rfl, h4⟩
            have E4 := Lib.hid h4
            clear h4
            have r4 := E4.out.row M2.out
            have q0 : w9.cell? ⟨sz + 1, 0, none⟩ = some (.int .i64 0) := by rw [cell_of_row _ _ _ _ _ _ r4]; rfl
            have q1 : w9.cell? ⟨sz + 1, 1, none⟩ = some (.int .i64 0) := by rw [cell_of_row _ _ _ _ _ _ r4]; rfl
            have qf : ∀ j, w9.frozen? ⟨sz + 1, j, none⟩ = false := fun j => frozen_of_row w9 _ j _ _ r4
            clear r4
            go_wp2_with fail
            have E5 := Lib.hid (E4.out.set2 D.out.2.1 M2.out (.int .i64 0) (.int .i64 0))
            have r5 := E5.out.row (List.mem_cons_self ..)
            generalize World.setCell (World.setCell _ _ _) _ _ = W5 at r5 E5 ⊢
            have q0 : W5.cell? ⟨sz + 1, 0, none⟩ = some (.int .i64 0) := by rw [cell_of_row _ _ _ _ _ _ r5]; rfl
            have q1 : W5.cell? ⟨sz + 1, 1, none⟩ = some (.int .i64 0) := by rw [cell_of_row _ _ _ _ _ _ r5]; rfl
            rw [AN.out]
            refine bodyPost_ret (v := hrV none) (by simp [results, Tryd.results21, go_sem, hrV, q0, q1]) rfl ⟨rfl, ?_⟩
            obtain ⟨x', hf, hr, _⟩ := E5.out
            exact ⟨x', hf, hr⟩
        · have AN : Hid (A = none) := Lib.hid (by rw [AH.out, Option.bind_some, if_neg (fun h => hv6 h.1)])
          have i3 : decide ((65536 : Int) < (v : Int)) = true := decide_eq_true (by omega)
          have i3n : decide (65536 < v) = true := decide_eq_true (by omega)
          have SK := Lib.hid (E6.out.seek D.out.2.1 a ha)
          go_wp2_with fail
          with_reducible refine SK.out.mono ?_
          rintro e w9 ⟨rfl, h4⟩
          have E4 := Lib.hid h4
          clear h4
          have r4 := E4.out.row M2.out
          have q0 : w9.cell? ⟨sz + 1, 0, none⟩ = some (.int .i64 0) := by rw [cell_of_row _ _ _ _ _ _ r4]; rfl
          have q1 : w9.cell? ⟨sz + 1, 1, none⟩ = some (.int .i64 0) := by rw [cell_of_row _ _ _ _ _ _ r4]; rfl
          have qf : ∀ j, w9.frozen? ⟨sz + 1, j, none⟩ = false := fun j => frozen_of_row w9 _ j _ _ r4
          clear r4
          go_wp2_with fail
          have E5 := Lib.hid (E4.out.set2 D.out.2.1 M2.out (.int .i64 0) (.int .i64 0))
          have r5 := E5.out.row (List.mem_cons_self ..)
          generalize World.setCell (World.setCell _ _ _) _ _ = W5 at r5 E5 ⊢
          have q0 : W5.cell? ⟨sz + 1, 0, none⟩ = some (.int .i64 0) := by rw [cell_of_row _ _ _ _ _ _ r5]; rfl
          have q1 : W5.cell? ⟨sz + 1, 1, none⟩ = some (.int .i64 0) := by rw [cell_of_row _ _ _ _ _ _ r5]; rfl
          rw [AN.out]
          refine bodyPost_ret (v := hrV none) (by simp [results, Tryd.results21, go_sem, hrV, q0, q1]) rfl ⟨rfl, ?_⟩
          obtain ⟨x', hf, hr, _⟩ := E5.out
          exact ⟨x', hf, hr⟩
    · have AH : Hid (A = if v ≤ 65536 then some (v, 0, a + n1) else none) := Lib.hid (by rw [← HA.out]; unfold hread; rw [HO1.out, Option.bind_some, if_neg hc])
      have rc := E3.out.row M1.out
      have c0 : w3.cell? ⟨sz, 0, none⟩ = some (.int .i64 (win : Int)) := by rw [cell_of_row _ _ _ _ _ _ rc]; rfl
      clear rc
      have i5 : decide ((win : Int) < 0) = false := decide_eq_false (by omega)
      have i5n : decide (win < 0) = false := decide_eq_false (by omega)
      by_cases hv0 : 0 < v
      · have hw0 : ¬ 0 < win := fun h => hc ⟨hv0, h⟩
        have i1 : decide ((0 : Int) < (v : Int)) = true := decide_eq_true (by omega)
        have i1n : decide (0 < v) = true := decide_eq_true (by omega)
        have i2 : decide ((0 : Int) < (win : Int)) = false := decide_eq_false (by omega)
        have i2n : decide (0 < win) = false := decide_eq_false (by omega)
        by_cases hv6 : v ≤ 65536
        · have AN : Hid (A = some (v, 0, a + n1)) := Lib.hid (by rw [AH.out, if_pos hv6])
          have i3 : decide ((65536 : Int) < (v : Int)) = false := decide_eq_false (by omega)
          have i3n : decide (65536 < v) = false := decide_eq_false (by omega)
          have r4 := E3.out.row M2.out
          have q0 : w3.cell? ⟨sz + 1, 0, none⟩ = some (.int .i64 0) := by rw [cell_of_row _ _ _ _ _ _ r4]; rfl
          have q1 : w3.cell? ⟨sz + 1, 1, none⟩ = some (.int .i64 0) := by rw [cell_of_row _ _ _ _ _ _ r4]; rfl
          have qf : ∀ j, w3.frozen? ⟨sz + 1, j, none⟩ = false := fun j => frozen_of_row w3 _ j _ _ r4
          clear r4
          go_wp2_with fail
          have E5 := Lib.hid (E3.out.set2 D.out.2.1 M2.out (.int .i64 (v : Int)) (.int .i64 ((0 : Nat) : Int)))
          have r5 := E5.out.row (List.mem_cons_self ..)
          generalize World.setCell (World.setCell _ _ _) _ _ = W5 at r5 E5 ⊢
          have q0 : W5.cell? ⟨sz + 1, 0, none⟩ = some (.int .i64 (v : Int)) := by rw [cell_of_row _ _ _ _ _ _ r5]; rfl
          have q1 : W5.cell? ⟨sz + 1, 1, none⟩ = some (.int .i64 ((0 : Nat) : Int)) := by rw [cell_of_row _ _ _ _ _ _ r5]; rfl
          rw [AN.out]
          refine bodyPost_ret (v := hrV (some (v, (0 : Nat), a + n1))) (by simp [results, Tryd.results21, go_sem, hrV, q0, q1]) rfl ⟨rfl, ?_⟩
          obtain ⟨x', hf, hr, _⟩ := E5.out
          exact ⟨x', hf, hr⟩
        · have AN : Hid (A = none) := Lib.hid (by rw [AH.out, if_neg hv6])
          have i3 : decide ((65536 : Int) < (v : Int)) = true := decide_eq_true (by omega)
          have i3n : decide (65536 < v) = true := decide_eq_true (by omega)
          have SK := Lib.hid (E3.out.seek D.out.2.1 a ha)
          go_wp2_with fail
          with_reducible refine SK.out.mono ?_
          rintro e w9 ⟨rfl, h4⟩
          have E4 := Lib.hid h4
          clear h4
          have r4 := E4.out.row M2.out
          have q0 : w9.cell? ⟨sz + 1, 0, none⟩ = some (.int .i64 0) := by rw [cell_of_row _ _ _ _ _ _ r4]; rfl
          have q1 : w9.cell? ⟨sz + 1, 1, none⟩ = some (.int .i64 0) := by rw [cell_of_row _ _ _ _ _ _ r4]; rfl
          have qf : ∀ j, w9.frozen? ⟨sz + 1, j, none⟩ = false := fun j => frozen_of_row w9 _ j _ _ r4
          clear r4
          go_wp2_with fail
          have E5 := Lib.hid (E4.out.set2 D.out.2.1 M2.out (.int .i64 0) (.int .i64 0))
          have r5 := E5.out.row (List.mem_cons_self ..)
          generalize World.setCell (World.setCell _ _ _) _ _ = W5 at r5 E5 ⊢
          have q0 : W5.cell? ⟨sz + 1, 0, none⟩ = some (.int .i64 0) := by rw [cell_of_row _ _ _ _ _ _ r5]; rfl
          have q1 : W5.cell? ⟨sz + 1, 1, none⟩ = some (.int .i64 0) := by rw [cell_of_row _ _ _ _ _ _ r5]; rfl
          rw [AN.out]
          refine bodyPost_ret (v := hrV none) (by simp [results, Tryd.results21, go_sem, hrV, q0, q1]) rfl ⟨rfl, ?_⟩
          obtain ⟨x', hf, hr, _⟩ := E5.out
          exact ⟨x', hf, hr⟩
      · have hz : v = 0 := by omega
        subst hz
        have AN : Hid (A = some (0, 0, a + n1)) := Lib.hid (by rw [AH.out, if_pos (by omega)])
        have r4 := E3.out.row M2.out
        have q0 : w3.cell? ⟨sz + 1, 0, none⟩ = some (.int .i64 0) := by rw [cell_of_row _ _ _ _ _ _ r4]; rfl
        have q1 : w3.cell? ⟨sz + 1, 1, none⟩ = some (.int .i64 0) := by rw [cell_of_row _ _ _ _ _ _ r4]; rfl
        have qf : ∀ j, w3.frozen? ⟨sz + 1, j, none⟩ = false := fun j => frozen_of_row w3 _ j _ _ r4
        clear r4
        go_wp2_with fail
        have E5 := Lib.hid (E3.out.set2 D.out.2.1 M2.out (.int .i64 ((0 : Nat) : Int)) (.int .i64 ((0 : Nat) : Int)))
        have r5 := E5.out.row (List.mem_cons_self ..)
        generalize World.setCell (World.setCell _ _ _) _ _ = W5 at r5 E5 ⊢
        have q0 : W5.cell? ⟨sz + 1, 0, none⟩ = some (.int .i64 ((0 : Nat) : Int)) := by rw [cell_of_row _ _ _ _ _ _ r5]; rfl
        have q1 : W5.cell? ⟨sz + 1, 1, none⟩ = some (.int .i64 ((0 : Nat) : Int)) := by rw [cell_of_row _ _ _ _ _ _ r5]; rfl
        rw [AN.out]
        refine bodyPost_ret (v := hrV (some ((0 : Nat), (0 : Nat), a + n1))) (by simp [results, Tryd.results21, go_sem, hrV, q0, q1]) rfl ⟨rfl, ?_⟩
        obtain ⟨x', hf, hr, _⟩ := E5.out
        exact ⟨x', hf, hr⟩
end Go.Proofs.YtflnpcgnenhogaaDoor.ls
