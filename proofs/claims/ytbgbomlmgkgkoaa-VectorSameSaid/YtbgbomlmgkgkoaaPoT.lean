/- Statement PoolSafe: what stands in memory in the law: the space, the array of texts, the map of what was written later. -/
import Derived.Test.YtbgbomlmgkgkoaaPoR
import Derived.Test.YtbgbomlmgkgkoaaPoS
import Derived.Test.YtbgbomlmgkgkoaaPoN
import Derived.Deep.AppendSrc
import Derived.Deep.Upon
namespace Go.Proofs.Ytbgbomlmgkgkoaa.arcI
open Go.RowKit Go.Proofs.Ytbgbomlmgkgkoaa.own Go.Proofs.Ytbgbomlmgkgkoaa.dv Go.Proofs.Ytbgbomlmgkgkoaa.po

def LS : Nat → Prop := fun e => e ≠ 100
def strsV (l : List ByteArray) : List Value := l.map fun t => Value.string t
theorem strsV_snoc (l : List ByteArray) (t : ByteArray) : strsV l ++ [.string t] = strsV (l ++ [t]) := by simp [strsV]
theorem strsV_get (l : List ByteArray) (k : Nat) (h : k < l.length) : (strsV l)[k]? = some (.string l[k]) := by simp [strsV, h]

/-- what was written later, in a map of lists of texts -/
structure LAT (x : Nat → Nat) (w : World) (lm N : Nat) (L : Int → List ByteArray) : Prop where
  xm : x lm = 48
  rows : ∃ (f : Int → Option Value) (n : Nat), VM w lm N f n ∧ ∀ k : Nat, k < 24 → w.ownsRow 0 9 1 ((f (k : Int)).getD (.slice none 0 0)) (L (k : Int)).length (strsV (L (k : Int))) ∧ ∀ b, ((f (k : Int)).getD (.slice none 0 0)).ownBlock = some b → x b = 200 + k
  len : ∀ k : Nat, k < 24 → (L (k : Int)).length ≤ N
theorem LAT.lt {x : Nat → Nat} {w : World} {lm N : Nat} {L : Int → List ByteArray} (h : LAT x w lm N L) : lm < w.heap.size := by obtain ⟨f, n, hv, _⟩ := h.rows; exact hv.lt
theorem LAT.made (x : Nat → Nat) (w : World) (hx : x w.heap.size = 48) : LAT x (w.alloc (.map #[] 0)) w.heap.size 0 (fun _ => []) :=
  ⟨hx, ⟨fun _ => none, 0, VM.made w, fun _ _ => ⟨World.ownsRow_nil _ _ _ _, fun b hb => by simp [Value.ownBlock] at hb⟩⟩, fun _ _ => Nat.le_refl _⟩
theorem LAT.frame {x x' : Nat → Nat} {C : Nat → Prop} {w w' : World} {lm N : Nat} {L : Int → List ByteArray} (h : LAT x w lm N L) (hf : Fr x x' C w w') (hC : ∀ e, (e = 48 ∨ 200 ≤ e) → ¬ C e) : LAT x' w' lm N L := by
  obtain ⟨f, n, hv, hr⟩ := h.rows
  refine ⟨by rw [hf.col lm h.lt]; exact h.xm, ⟨f, n, hv.frame (hf.old lm h.lt (by rw [h.xm]; exact hC _ (.inl rfl))), fun k hk => ?_⟩, h.len⟩
  obtain ⟨r1, r2⟩ := hr k hk
  exact row_frame hf (hC (200 + k) (.inr (by omega))) r1 r2
theorem LAT.mono {x : Nat → Nat} {w : World} {lm N N' : Nat} {L : Int → List ByteArray} (h : LAT x w lm N L) (hN : N ≤ N') : LAT x w lm N' L := by
  obtain ⟨f, n, hv, hr⟩ := h.rows
  exact ⟨h.xm, ⟨f, n, hv.mono hN, hr⟩, fun k hk => Nat.le_trans (h.len k hk) hN⟩
/-- what a look into the map gives -/
theorem LAT.look {x : Nat → Nat} {w : World} {lm N : Nat} {L : Int → List ByteArray} (h : LAT x w lm N L) {k : Nat} (hk : k < 24) :
    ∃ v, (Instr.lookup 51 (.map (some lm)) (.int .i64 (k : Int)) false).run Try.prog w = .ok v w ∧ w.ownsRow 0 9 1 v (L (k : Int)).length (strsV (L (k : Int))) ∧ ∀ b, v.ownBlock = some b → x b = 200 + k := by
  obtain ⟨f, n, hv, hr⟩ := h.rows
  exact ⟨_, hv.look (WalkArith.wf_i64 (by omega)) Try.underlying51 (z := .slice none 0 0) (by kernel_rfl), hr k hk⟩
theorem LAT.look2 {x : Nat → Nat} {w : World} {lm N : Nat} {L : Int → List ByteArray} (h : LAT x w lm N L) {k : Nat} (hk : k < 24) :
    ∃ v, (∀ q, (Instr.lookup 51 (.map (some lm)) (.int .i64 (k : Int)) false).run Try.prog (w.drewN q) = .ok v (w.drewN q)) ∧ w.ownsRow 0 9 1 v (L (k : Int)).length (strsV (L (k : Int))) := by
  obtain ⟨f, n, hv, hr⟩ := h.rows
  have hkk : KOK (k : Int) := WalkArith.wf_i64 (by omega)
  exact ⟨_, fun q => VM.look (w := w.drewN q) hv hkk Try.underlying51 (z := .slice none 0 0) (by kernel_rfl), (hr k hk).1⟩
set_option maxRecDepth 100000 in
/-- a text is put behind a list -/
theorem LAT.add {x : Nat → Nat} {w : World} {lm N : Nat} {L : Int → List ByteArray} (h : LAT x w lm N L) {k : Nat} (hk : k < 24) {o : Obj} {v v1 : Value} {w1 : World} {t : ByteArray}
    (hb : ∀ b, v.ownBlock = some b → x b = 200 + k ∧ b < w.heap.size) (hg : (w.alloc o).grownBy w1 v.ownBlock) (own1 : w1.ownsRow 0 9 1 v1 ((L (k : Int)).length + 1) (strsV (L (k : Int) ++ [t]))) (hw : v1.ownBlock = v.ownBlock ∨ v1.ownBlock = some (w.alloc o).heap.size) (hN : N + 1 < maxLen) :
    ∃ w2, (Instr.mapUpdate 51 (.map (some lm)) (.int .i64 (k : Int)) v1).run Try.prog w1 = .ok () w2 ∧ Fr x (paint x w.heap.size (200 + k)) (fun e => e = 48 ∨ e = 200 + k) w w2 ∧
      LAT (paint x w.heap.size (200 + k)) w2 lm (N + 1) (fun j => if j = (k : Int) then L j ++ [t] else L j) := by
  obtain ⟨f, n, hv, hr⟩ := h.rows
  have lml := h.lt
  have hsz : (w.alloc o).heap.size = w.heap.size + 1 := by simp
  have vne : v.ownBlock ≠ some lm := fun e => by have a := (hb lm e).1; rw [h.xm] at a; omega
  have old1 : ∀ b, b < w.heap.size → v.ownBlock ≠ some b → w1.heap[b]? = w.heap[b]? := fun b hlt hne => (hg.block b (by omega) (fun e => hne e.symm)).trans (Below.heap_alloc _ _ _ hlt)
  have f1 : Fr x (paint x w.heap.size (200 + k)) (fun e => e = 48 ∨ e = 200 + k) w w1 := by
    have K : Keeps w w1 (fun b => v.ownBlock = some b) := ((Keeps.refl w _).alloc _).grown hg (fun j hj => .inl hj)
    exact K.fr (.inr rfl) (fun b _ hs => .inr (hb b hs).1)
  have hv1 := hv.frame (old1 lm lml (fun e => vne e))
  have hkk : KOK (k : Int) := WalkArith.wf_i64 (by omega)
  obtain ⟨w2, hrun, hv2, ht⟩ := hv1.store hkk Try.underlying51 v1 (by omega)
  have xl : paint x w.heap.size (200 + k) lm = 48 := by rw [paint_old lml]; exact h.xm
  have f2 : Fr (paint x w.heap.size (200 + k)) (paint x w.heap.size (200 + k)) (fun e => e = 48) w1 w2 := Fr.same ht.grown.os ht.grown.tape ht.grown.output (mapTurned_size ht) (fun b hb hC => ht.grown.block b hb (fun e => hC (by rw [Option.some.inj e]; exact xl)))
  refine ⟨w2, hrun, f1.trans (f2.mono (fun e he => .inl he)), xl, ⟨_, _, hv2, fun j hj => ?_⟩, fun j hj => ?_⟩
  · by_cases hjk : j = k
    · subst hjk
      show World.ownsRow _ _ _ _ ((updO f (j : Int) (some v1) (j : Int)).getD _) (if (j : Int) = (j : Int) then L j ++ [t] else L j).length (strsV (if (j : Int) = (j : Int) then L j ++ [t] else L j)) ∧ _
      rw [updO_same, if_pos rfl, List.length_append]
      refine row_frame f2 (c := 200 + j) (by omega) own1 (fun b hb1 => ?_)
      rcases hw with e | e
      · rw [show v1.ownBlock = some b from hb1] at e
        obtain ⟨p, q⟩ := hb b e.symm
        rw [paint_old q]; exact p
      · rw [show v1.ownBlock = some b from hb1] at e
        have := Option.some.inj e
        exact paint_new (by omega)
    · have hji : ¬ (j : Int) = (k : Int) := by omega
      show World.ownsRow _ _ _ _ ((updO f (k : Int) (some v1) (j : Int)).getD _) (if (j : Int) = (k : Int) then L j ++ [t] else L j).length (strsV (if (j : Int) = (k : Int) then L j ++ [t] else L j)) ∧ _
      rw [updO_other _ _ hji, if_neg hji]
      obtain ⟨r1, r2⟩ := hr j hj
      have ff := f1.trans (f2.mono (D := fun e => e = 48 ∨ e = 200 + k) (fun e he => .inl he))
      exact row_frame ff (c := 200 + j) (by omega) r1 r2
  · show (if (j : Int) = (k : Int) then L j ++ [t] else L j).length ≤ N + 1
    have := h.len j hj
    by_cases hjk : (j : Int) = (k : Int)
    · rw [if_pos hjk, List.length_append]; simp; omega
    · rw [if_neg hjk]; omega

/-- what stands between two rounds -/
structure SF (w : World) (sa da ea ib bx : Nat) (kv : Value) (tn mk : Int) (N : Nat) (x : Nat → Nat) (A : Sp) (DA : Dev) (V : Nat → ByteArray) (wr : World) : Prop where
  ff : Fr (fun _ => 100) x LS w wr
  a : SIs x 0 20 wr sa da ea A DA N
  xi : x ib = 46
  hi : IsA wr ib V
  xb : x bx = 43
  hb : wr.heap[bx]? = some (.cells #[kv, .int .i64 tn, .int .u8 mk] 47 (0, 0))
theorem SF.frame {w : World} {sa da ea ib bx : Nat} {kv : Value} {tn mk : Int} {N : Nat} {x x' : Nat → Nat} {A : Sp} {DA : Dev} {V : Nat → ByteArray} {wr wc : World} (h : SF w sa da ea ib bx kv tn mk N x A DA V wr) {C : Nat → Prop} (hf : Fr x x' C wr wc) (hC : ∀ e, (e ≤ 22 ∨ e = 43 ∨ e = 46 ∨ e = 100) → ¬ C e) : SF w sa da ea ib bx kv tn mk N x' A DA V wc := by
  have li := h.hi.lt
  have lb := lt_of_block h.hb
  refine ⟨h.ff.trans (hf.mono (fun e he => by show e ≠ 100; rintro rfl; exact hC 100 (.inr (.inr (.inr rfl))) he)), h.a.frame hf (fun e he => hC e (.inl ?_)), by rw [hf.col _ li]; exact h.xi, h.hi.frame (hf.old _ li (by rw [h.xi]; exact hC _ (.inr (.inr (.inl rfl))))), by rw [hf.col _ lb]; exact h.xb, (hf.old _ lb (by rw [h.xb]; exact hC _ (.inr (.inl rfl)))).trans h.hb⟩
  rcases he with he | he
  · have := he.1.2; omega
  · have := he.2; omega
theorem SF.turn {w : World} {sa da ea ib bx : Nat} {kv : Value} {tn mk : Int} {N N' : Nat} {x x' : Nat → Nat} {A A' : Sp} {DA DA' : Dev} {V : Nat → ByteArray} {wr wc : World} (h : SF w sa da ea ib bx kv tn mk N x A DA V wr) (hf : Fr x x' (PC 0 20) wr wc) (hs : SIs x' 0 20 wc sa da ea A' DA' N') : SF w sa da ea ib bx kv tn mk N' x' A' DA' V wc := by
  have li := h.hi.lt
  have lb := lt_of_block h.hb
  have ni : ¬ PC 0 20 (x ib) := by rw [h.xi]; rintro (q | q); exact absurd q.2 (by omega); exact absurd q.2 (by omega)
  have nb : ¬ PC 0 20 (x bx) := by rw [h.xb]; rintro (q | q); exact absurd q.2 (by omega); exact absurd q.2 (by omega)
  exact ⟨h.ff.trans (hf.mono (fun e he => by show e ≠ 100; rintro rfl; rcases he with q | q; exact absurd q.2 (by omega); exact absurd q.2 (by omega))), hs, by rw [hf.col _ li]; exact h.xi, h.hi.frame (hf.old _ li ni), by rw [hf.col _ lb]; exact h.xb, (hf.old _ lb nb).trans h.hb⟩
theorem SF.set {w : World} {sa da ea ib bx : Nat} {kv : Value} {tn mk : Int} {N : Nat} {x : Nat → Nat} {A : Sp} {DA : Dev} {V : Nat → ByteArray} {wr : World} (h : SF w sa da ea ib bx kv tn mk N x A DA V wr) {k : Nat} (hk : k < 24) (u : ByteArray) : SF w sa da ea ib bx kv tn mk N x A DA (fun j => if j = k then u else V j) (wr.setCell ⟨ib, k, none⟩ (.string u)) := by
  have f : Fr x x (fun e => e = 46) wr (wr.setCell ⟨ib, k, none⟩ (.string u)) := Fr.same rfl rfl rfl (by simp) (fun b _ hC => Below.heap_setCell wr _ _ _ (by rintro rfl; exact hC h.xi))
  have lb := lt_of_block h.hb
  exact ⟨h.ff.trans (f.mono (fun e he => by show e ≠ 100; omega)), h.a.frame f (fun e he hc => by subst hc; rcases he with he | he; exact absurd he.1.2 (by omega); exact absurd he.2 (by omega)), h.xi, h.hi.set hk u, h.xb, (f.old _ lb (by rw [h.xb]; omega)).trans h.hb⟩
theorem SF.mono {w : World} {sa da ea ib bx : Nat} {kv : Value} {tn mk : Int} {N N' : Nat} {x : Nat → Nat} {A : Sp} {DA : Dev} {V : Nat → ByteArray} {wr : World} (h : SF w sa da ea ib bx kv tn mk N x A DA V wr) (hN : N ≤ N') : SF w sa da ea ib bx kv tn mk N' x A DA V wr :=
  ⟨h.ff, h.a.mono hN, h.xi, h.hi, h.xb, h.hb⟩
theorem SF.below {w : World} {sa da ea ib bx : Nat} {kv : Value} {tn mk : Int} {N : Nat} {x : Nat → Nat} {A : Sp} {DA : Dev} {V : Nat → ByteArray} {wr wc : World} (h : SF w sa da ea ib bx kv tn mk N x A DA V wr) (hb : Below wr.heap.size wr wc) (c : Nat) (hc : c = 44 ∨ c = 45 ∨ c = 48 ∨ c = 49) : SF w sa da ea ib bx kv tn mk N (paint x wr.heap.size c) A DA V wc :=
  h.frame (Fr.of_below (C := fun e => e = c) hb rfl) (fun e he hec => by omega)

theorem SF.dev {w : World} {sa da ea ib bx : Nat} {kv : Value} {tn mk : Int} {N : Nat} {x x' : Nat → Nat} {A : Sp} {DA DB : Dev} {V : Nat → ByteArray} {wr wc : World} (h : SF w sa da ea ib bx kv tn mk N x A DA V wr) (hf : Fr x x' (DC 20) wr wc) (hd : DIs x' 20 wc da DB N) : SF w sa da ea ib bx kv tn mk N x' A DB V wc := by
  obtain ⟨⟨cb, pm, blk, t⟩, -⟩ := h.a
  exact h.turn (hf.mono (fun e he => .inr he)) ⟨⟨cb, pm, blk, t.frame hf (fun e he hc => by have a := he.1.2; have b := hc.1; omega)⟩, hd⟩
theorem LAT.dev {x x' : Nat → Nat} {w w' : World} {lm N : Nat} {L : Int → List ByteArray} (h : LAT x w lm N L) (hf : Fr x x' (PC 0 20) w w') : LAT x' w' lm N L :=
  h.frame hf (fun e he hc => by
    rcases hc with q | q
    · have := q.2; omega
    · have := q.2; omega)
theorem LAT.below {x : Nat → Nat} {w w' : World} {lm N : Nat} {L : Int → List ByteArray} (h : LAT x w lm N L) (hb : Below w.heap.size w w') (c : Nat) (hc : c = 44 ∨ c = 45 ∨ c = 49) : LAT (paint x w.heap.size c) w' lm N L :=
  h.frame (Fr.of_below (C := fun e => e = c) hb rfl) (fun e he hec => by omega)

theorem fr12_is (m : Int) : ∃ z : Nat, wrap64 (1 + (wrap64 (m.tmod 12 + 12)).tmod 12) = z ∧ 1 ≤ z ∧ z ≤ 12 := by
  have h1 : -12 < m.tmod 12 := Int.lt_tmod_of_pos m (by omega)
  have h2 : m.tmod 12 < 12 := Int.tmod_lt_of_pos m (by omega)
  generalize m.tmod 12 = r at h1 h2 ⊢
  rw [IntWalk.wrap64_in (r + 12) (by omega), Int.tmod_eq_emod_of_nonneg (by omega), IntWalk.wrap64_in _ (by omega)]
  exact ⟨(1 + (r + 12) % 12).toNat, by omega, by omega, by omega⟩

/-- a list of places that came in -/
def KArg (w : World) (kv : Value) : Prop :=
  (∃ a c, kv = .slice a 0 c) ∨ ∃ b o n c zs, kv = .slice (some ⟨b, o, none⟩) n c ∧ n = List.length zs ∧ 0 < n ∧ n * 8 ≤ 140737488355328 ∧ b < w.heap.size ∧ ∀ j, j < zs.length → w.cell? ⟨b, o + j, none⟩ = some (.int .i64 (zs.getD j 0))

theorem Try.infoInt3 : (Try.prog.info? 3).map (fun i => (i.zero, i.size, i.bytes)) = some (some (.int .i64 0), 1, 8) := by kernel_rfl
/-- a list of places is put behind an empty one -/
theorem keep_grow (W : World) (g b o n c : Nat) (zs : List Int) (hn : n = zs.length) (h0 : 0 < n) (h8 : n * 8 ≤ 140737488355328) (hc : ∀ j, j < zs.length → W.cell? ⟨b, o + j, none⟩ = some (.int .i64 (zs.getD j 0))) (ty : TypeId) :
    ∃ cs cap, (Builtin.append_ #[45, 45] ty #[.slice (some ⟨g, 0, none⟩) 0 0, .slice (some ⟨b, o, none⟩) n c]).run Try.prog W = .ok (.slice (some ⟨W.heap.size, 0, none⟩) n cap) (W.drew.alloc (.cells cs 3)) ∧ ∀ j, j < zs.length → cs[j]? = some (.int .i64 (zs.getD j 0)) := by
  obtain ⟨i0, hi, hz0, hz1, hz2⟩ := info_parts Try.infoInt3
  have hk := Try.underlying45
  have hg : ∀ j u, (zs.map fun z => Value.int .i64 z)[j]? = some u → W.cell? ((⟨b, o, none⟩ : Addr).add j) = some u := fun j u hj => by
    rw [Addr.add_lit]
    rw [List.getElem?_map] at hj
    rcases hz : zs[j]? with _ | z
    · rw [hz] at hj; cases hj
    · rw [hz] at hj
      have hj : some (Value.int .i64 z) = some u := hj
      have hl := (List.getElem?_eq_some_iff.1 hz).1
      rw [hc j hl, ← hj, List.getD_eq_getElem?_getD, hz]; rfl
  have hs : Src Try.prog i0.size 45 (.slice (some ⟨b, o, none⟩) n c) n (zs.map fun z => Value.int .i64 z) W := by
    rw [hz1]
    exact Src.ofSlice W hk _ n c _ (by rw [List.length_map, hn]; omega) hg (fun u hu => by obtain ⟨z, _, rfl⟩ := List.mem_map.1 hu; rfl)
  have hr := run_append_grow_src (P := Try.prog) W 45 45 ty 3 i0 _ hk hi hz0 (some ⟨g, 0, none⟩) 0 0 [] (by rw [hz1]; exact run_firstCells_some W.drew 1 0 ⟨g, 0, none⟩ 0 0 [] rfl (fun j u hj => by simp at hj)) _ n _ hs (by omega) (by omega) (by rw [hz2]; simp [Builtin.nextslicecap, h0]; omega)
  rw [Nat.zero_add] at hr
  refine ⟨_, _, hr, fun j hj => ?_⟩
  rw [List.nil_append, Array.getElem?_append_left (by simp; omega), List.getElem?_toArray, List.getElem?_map, List.getElem?_eq_getElem hj, List.getD_eq_getElem?_getD, List.getElem?_eq_getElem hj]
  rfl

theorem wp_append_grow {w : World} {o' : Oper} {a : Act} {K : Act → World → Prop} {Q : Exit → Act → World → Prop} {cc : Bool} {E : Prop} (hcc : cc = true) (s x : Operand)
    (ho : o'.op = .call { callee := .builtin .append, args := #[s, x], argTypes := #[45, 45] }) (g b o n c : Nat) (zs : List Int) (hs : a.eval s = .slice (some ⟨g, 0, none⟩) 0 0) (hx : a.eval x = .slice (some ⟨b, o, none⟩) n c)
    (hn : n = zs.length) (h0 : 0 < n) (h8 : n * 8 ≤ 140737488355328) (hc : ∀ j, j < zs.length → w.cell? ⟨b, o + j, none⟩ = some (.int .i64 (zs.getD j 0)))
    (h : ∀ cs cap, (∀ j, j < zs.length → cs[j]? = some (.int .i64 (zs.getD j 0))) → K (a.put o'.dst (.slice (some ⟨w.heap.size, 0, none⟩) n cap)) (w.drew.alloc (.cells cs 3))) :
    if cc = true then Oper.wp Try.prog o' a w K Q else E := by
  rw [if_pos hcc]
  obtain ⟨cs, cap, hr, h2⟩ := keep_grow w g b o n c zs hn h0 h8 hc o'.type
  unfold Oper.wp execOp
  simp only [ho, resolve, invoke, builtin, Sem.run_bind, Sem.run_pure, Result.andThen_ok, List.map_toArray, List.map_cons, List.map_nil, hs, hx, hr]
  exact h cs cap h2

theorem wp_append_zero {w : World} {o' : Oper} {a : Act} {K : Act → World → Prop} {Q : Exit → Act → World → Prop} {cc : Bool} {E : Prop} (hcc : cc = true) (s x : Operand)
    (ho : o'.op = .call { callee := .builtin .append, args := #[s, x], argTypes := #[45, 45] }) (g : Nat) (ka : Option Addr) (kc : Nat) (hs : a.eval s = .slice (some ⟨g, 0, none⟩) 0 0) (hx : a.eval x = .slice ka 0 kc)
    (h : K (a.put o'.dst (.slice (some ⟨g, 0, none⟩) 0 0)) w) :
    if cc = true then Oper.wp Try.prog o' a w K Q else E := by
  rw [if_pos hcc]
  obtain ⟨i0, hi, hz0, hz1, hz2⟩ := info_parts Try.infoInt3
  have hk := Try.underlying45
  have hsrc : Src Try.prog i0.size 45 (.slice ka 0 kc) 0 [] w := by
    rcases ka with _ | ad
    · exact Src.ofNil w hk kc
    · exact Src.ofSlice w hk ad 0 kc [] (by simp) (fun j u hj => by simp at hj) (fun u hu => by cases hu)
  have hr := run_append_nothing (P := Try.prog) w 45 45 o'.type 3 i0 hk hi (some ⟨g, 0, none⟩) 0 0 (Nat.le_refl _) _ hsrc
  unfold Oper.wp execOp
  simp only [ho, resolve, invoke, builtin, Sem.run_bind, Sem.run_pure, Result.andThen_ok, List.map_toArray, List.map_cons, List.map_nil, hs, hx, hr]
  exact h

/-! ### the sectors that are told -/
def eqB (a b : ByteArray) : Bool := a.toList == b.toList
theorem eqB_self (a : ByteArray) : eqB a a = true := beq_self_eq_true _
def okB (g v : ByteArray) (l : List ByteArray) (lo hi : Nat) : Bool := eqB (g.extract lo hi) (v.extract lo hi) || l.any fun t => eqB (g.extract lo hi) (t.extract lo hi)
theorem okB_zero (g v : ByteArray) (lo hi : Nat) : okB g v [] lo hi = eqB (g.extract lo hi) (v.extract lo hi) := by unfold okB; simp
theorem okB_succ (g v : ByteArray) (l : List ByteArray) (lo hi j : Nat) (h : j < l.length) : okB g v (l.take (j + 1)) lo hi = (okB g v (l.take j) lo hi || eqB (g.extract lo hi) (l[j].extract lo hi)) := by
  unfold okB
  rw [List.take_succ_eq_append_getElem h, List.any_append, Bool.or_assoc]
  simp
theorem okB_true {g v : ByteArray} {l : List ByteArray} {lo hi k : Nat} (e : ∀ t : ByteArray, t.extract lo hi = sect t k) (h : sect g k = sect v k ∨ ∃ t, t ∈ l ∧ sect g k = sect t k) : okB g v l lo hi = true := by
  unfold okB
  rw [e, e]
  rcases h with h | ⟨t, ht, h⟩
  · rw [h, eqB_self]; rfl
  · rw [Bool.or_eq_true]
    exact .inr (List.any_eq_true.2 ⟨t, ht, by rw [e, h, eqB_self]⟩)

/-! ### the region that pulls the device -/
def BX (bx : Nat) (kv : Value) (tn mk : Int) (W : World) : Prop := W.heap[bx]? = some (.cells #[kv, .int .i64 tn, .int .u8 mk] 47 (0, 0))
theorem BX.cells {bx : Nat} {kv : Value} {tn mk : Int} {W : World} (h : BX bx kv tn mk W) : W.cell? ⟨bx, 0, none⟩ = some kv ∧ W.cell? ⟨bx, 1, none⟩ = some (.int .i64 tn) ∧ W.cell? ⟨bx, 2, none⟩ = some (.int .u8 mk) := by
  refine ⟨?_, ?_, ?_⟩ <;> · rw [cell_of_row _ _ _ _ _ _ h]; rfl
theorem BX.drew {bx : Nat} {kv : Value} {tn mk : Int} {W : World} (h : BX bx kv tn mk W) : BX bx kv tn mk W.drew := h
theorem BX.drewN {bx : Nat} {kv : Value} {tn mk : Int} {W : World} (h : BX bx kv tn mk W) (k : Nat) : BX bx kv tn mk (W.drewN k) := h
theorem BX.alloc {bx : Nat} {kv : Value} {tn mk : Int} {W : World} (h : BX bx kv tn mk W) (o : Obj) : BX bx kv tn mk (W.alloc o) := (Below.heap_alloc _ _ _ (lt_of_block h)).trans h
theorem bel_alloc {w w' : World} (h : Below w.heap.size w w') (o : Obj) : Below w.heap.size w (w'.alloc o) := h.alloc h.size o
theorem bel_drewN {w w' : World} (h : Below w.heap.size w w') (k : Nat) : Below w.heap.size w (w'.drewN k) := ⟨h.os, h.tape, h.output, h.size, h.block⟩

theorem pull_step {w : World} {sa da ea ib bx lm : Nat} {kv : Value} {tn mk : Int} {x : Nat → Nat} {A : Sp} {DA : Dev} {V : Nat → ByteArray} {wc : World} {L : Int → List ByteArray} (hS : SF w sa da ea ib bx kv tn mk 1300 x A DA V wc) (hT : LAT x wc lm 60 L) (hI : SameInv A DA 2) {W : World} (hb : Below wc.heap.size wc W) (v : Value)
    (hv : (∃ a c, v = .slice a 0 c) ∨ ∃ g n c zs, v = .slice (some ⟨g, 0, none⟩) n c ∧ n = List.length zs ∧ n * 8 ≤ 140737488355328 ∧ wc.heap.size ≤ g ∧ g < W.heap.size ∧ ∀ j, j < zs.length → W.cell? ⟨g, j, none⟩ = some (.int .i64 (zs.getD j 0))) :
    Calls Try.prog 20 #[.pointer (some ⟨da, 0, none⟩), .agg #[v, .int .i64 tn, .int .u8 mk]] W fun e w' => e = .returned (.int .i64 0) ∧ ∃ x DB, Fell DA DB ∧ SF w sa da ea ib bx kv tn mk 1300 x A DB V w' ∧ LAT x w' lm 60 L := by
  have SW := hS.below hb 49 (by omega)
  have TW := hT.below hb 49 (by omega)
  refine (Pull_any (paint x wc.heap.size 49) 20 da DA 1300 W v tn mk SW.a.2 hI.ok.dev hI.ok.up ?_ (by omega)).mono ?_
  · rcases hv with h | ⟨g, n, c, zs, e, h1, h2, h3, h4, h5⟩
    · exact .inl h
    · exact .inr ⟨g, n, c, zs, e, h1, by omega, h4, by rw [paint_new h3]; decide, h5⟩
  · rintro e w9 ⟨rfl, DB, hF, x9, f9, d9⟩
    exact ⟨rfl, x9, DB, hF, SW.dev f9 d9, TW.dev (f9.mono (fun e he => .inr he))⟩

end Go.Proofs.Ytbgbomlmgkgkoaa.arcI
