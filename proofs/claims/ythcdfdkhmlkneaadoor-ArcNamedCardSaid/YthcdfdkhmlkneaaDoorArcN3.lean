/- ArcNamed: one call on both caches: the plain law; what stands in memory within a round. -/
import Derived.Test.YthcdfdkhmlkneaaDoorArcN2
import Derived.Test.YthcdfdkhmlkneaaDoorArcNr
namespace Go.Proofs.YthcdfdkhmlkneaaDoor.arcN
open Go.RowKit Go.Proofs.YthcdfdkhmlkneaaDoor.own

/-! ### one call on both -/
def runT (t : arcS.St) (kind : Int) (k : List UInt8) : arcS.St × Bool × Option (List UInt8) × Nat :=
  if kind = 0 then arcS.touchS t k
  else if kind = 1 then ((arcS.pinR t k).1, false, none, (arcS.pinR t k).2)
  else if kind = 2 then ((arcS.unpinR t k).1, false, none, (arcS.unpinR t k).2)
  else if kind = 3 then ((arcS.dropR t k).1, false, none, (arcS.dropR t k).2)
  else (t, false, none, 0)
structure Step2 (s : arcI.St) (t : arcS.St) (r : arcI.St × Bool × Option Int × Nat) (q : arcS.St × Bool × Option (List UInt8) × Nat) (b : Nat) : Prop where
  rl : Rl nm r.1 q.1
  hit : q.2.1 = r.2.1
  gone : q.2.2.1 = r.2.2.1.map nm
  er : q.2.2.2 = r.2.2.2
  oki : arcI.Ok r.1
  oks : arcS.Ok q.1
  pins : ∀ a, r.1.pins a ≤ b + 1
  key : ∀ g, r.2.2.1 = some g → (Lit.int .i64 g).wf = true
  small : r.2.2.2 ≤ 16

theorem touch_gone (s : arcI.St) (k : Int) (ok : arcI.Ok s) : ∀ g, (arcI.touchS s k).2.2.1 = some g → (Lit.int .i64 g).wf = true := by
  intro g hg
  have hfree : ∀ (p : Int → Nat) (l : List Int) a, arcI.freeK p l = some a → a ∈ l := fun p l a h => (arcI.freeK_mem h).1
  have hroom : ∀ (s' : arcI.St) (oft : Bool), s'.once = s.once → s'.often = s.often → (arcI.roomS s' oft).2 = some g → g ∈ s.once ∨ g ∈ s.often := fun s' oft e1 e2 h => by
    unfold arcI.roomS at h
    split at h
    · cases h
    · split at h
      · split at h
        · rename_i k' hk'
          injection h with h; subst h
          rw [e1] at hk'
          exact .inl (hfree _ _ _ hk')
        · cases h
      · split at h
        · rename_i k' hk'
          injection h with h; subst h
          rw [e2] at hk'
          exact .inr (hfree _ _ _ hk')
        · cases h
  have hin : g ∈ s.once ∨ g ∈ s.often := by
    unfold arcI.touchS at hg
    split at hg
    · cases hg
    · split at hg
      · cases hg
      · split at hg
        · exact hroom (arcI.upS s) false rfl rfl hg
        · split at hg
          · exact hroom (arcI.downS s) true rfl rfl hg
          · have hg : (arcI.addS s).2 = some g := hg
            unfold arcI.addS at hg
            split at hg
            · split at hg
              · exact hroom { s with wonce := s.wonce.tail } false rfl rfl hg
              · split at hg
                · rename_i k' hk'
                  injection hg with hg; subst hg
                  exact .inl (hfree _ _ _ hk')
                · cases hg
            · split at hg
              · cases hg
              · split at hg
                · exact hroom { s with woften := s.woften.tail } false rfl rfl hg
                · exact hroom s false rfl rfl hg
  exact ok.keys g (hin.elim .inl fun x => .inr (.inl x))
theorem touch_small (s : arcI.St) (k : Int) : (arcI.touchS s k).2.2.2 ≤ 16 := by
  unfold arcI.touchS
  split
  · exact Nat.zero_le _
  · split
    · show 13 ≤ 16; omega
    · split
      · exact Nat.zero_le _
      · split <;> exact Nat.zero_le _
theorem run_step {s : arcI.St} {t : arcS.St} (h : Rl nm s t) (oi : arcI.Ok s) (os : arcS.Ok t) {b : Nat} (hp : ∀ a, s.pins a ≤ b) (kind key : Int) (hk : (Lit.int .i64 key).wf = true) :
    Step2 s t (arcI.runS s kind key) (runT t kind (nm key)) b := by
  have hp1 : ∀ a, s.pins a ≤ b + 1 := fun a => Nat.le_succ_of_le (hp a)
  unfold arcI.runS runT
  by_cases h0 : kind = 0
  · rw [if_pos h0, if_pos h0]
    obtain ⟨g1, g2, g3, g4⟩ := h.touch nm_inj key
    have ti := arcI.touchS_ok s key oi hk
    exact ⟨g1, g2, g3, g4, ti.ok, (arcS.touchS_ok t (nm key) os (nm_len key hk)).ok, fun a => by rw [ti.pins]; exact hp1 a, touch_gone s key oi, touch_small s key⟩
  · rw [if_neg h0, if_neg h0]
    by_cases h1 : kind = 1
    · rw [if_pos h1, if_pos h1]
      obtain ⟨g1, g2⟩ := h.pin nm_inj key
      refine ⟨g1, rfl, rfl, g2, ?_, ?_, fun a => ?_, (fun g hg => by cases hg), ?_⟩
      · unfold arcI.pinR; split
        · exact arcI.pinS_ok s key oi (by assumption)
        · exact oi
      · unfold arcS.pinR; split
        · exact arcS.pinS_ok t (nm key) os (by assumption)
        · exact os
      · unfold arcI.pinR; split
        · show (if a = key then s.pins key + 1 else s.pins a) ≤ b + 1
          split
          · have := hp key; omega
          · exact hp1 a
        · exact hp1 a
      · show (arcI.pinR s key).2 ≤ 16
        unfold arcI.pinR; split
        · exact Nat.zero_le _
        · show 6 ≤ 16; omega
    · rw [if_neg h1, if_neg h1]
      by_cases h2 : kind = 2
      · rw [if_pos h2, if_pos h2]
        obtain ⟨g1, g2⟩ := h.unpin nm_inj key
        refine ⟨g1, rfl, rfl, g2, ?_, ?_, fun a => ?_, (fun g hg => by cases hg), ?_⟩
        · unfold arcI.unpinR; split
          · split
            · exact oi
            · exact arcI.unpinS_ok s key oi (by assumption)
          · exact oi
        · unfold arcS.unpinR; split
          · split
            · exact os
            · exact arcS.unpinS_ok t (nm key) os (by assumption)
          · exact os
        · unfold arcI.unpinR; split
          · split
            · exact hp1 a
            · show (if a = key then s.pins key - 1 else s.pins a) ≤ b + 1
              split
              · have := hp key; omega
              · exact hp1 a
          · exact hp1 a
        · show (arcI.unpinR s key).2 ≤ 16
          unfold arcI.unpinR; split
          · split
            · show 16 ≤ 16; omega
            · exact Nat.zero_le _
          · show 6 ≤ 16; omega
      · rw [if_neg h2, if_neg h2]
        by_cases h3 : kind = 3
        · rw [if_pos h3, if_pos h3]
          obtain ⟨g1, g2⟩ := h.drop nm_inj key
          refine ⟨g1, rfl, rfl, g2, ?_, ?_, fun a => ?_, (fun g hg => by cases hg), ?_⟩
          · unfold arcI.dropR; split
            · split
              · exact oi
              · exact arcI.dropS_ok s key oi (by omega)
            · exact oi
          · unfold arcS.dropR; split
            · split
              · exact os
              · exact arcS.dropS_ok t (nm key) os (by omega)
            · exact os
          · unfold arcI.dropR; split
            · split <;> exact hp1 a
            · exact hp1 a
          · show (arcI.dropR s key).2 ≤ 16
            unfold arcI.dropR; split
            · split
              · show 16 ≤ 16; omega
              · exact Nat.zero_le _
            · show 6 ≤ 16; omega
        · rw [if_neg h3, if_neg h3]
          exact ⟨h, rfl, rfl, rfl, oi, os, hp1, (fun g hg => by cases hg), Nat.zero_le _⟩

/-! ### what stands in memory -/
/-- the law's colours: 0 to 6 the cache of numbers, 10 to 16 the cache of names, 8 the rest -/
def LC : Nat → Prop := fun e => e ≤ 16
theorem CDI : ∀ e, arcI.CD 0 e → LC e := fun e he => by have := he.2; show e ≤ 16; omega
theorem CDS : ∀ e, arcS.CD 10 e → LC e := fun e he => by have := he.2; show e ≤ 16; omega
def NRel (w : World) (sz cb db j : Nat) (wr : World) : Prop :=
  ∃ (xr : Nat → Nat) (s : arcI.St) (t : arcS.St), Fr (fun _ => 100) xr LC w wr ∧ arcI.CIs xr 0 wr cb s (2 * j) ∧ arcS.CIs xr 10 wr db t (2 * j) ∧ arcI.Ok s ∧ arcS.Ok t ∧ s.size = sz ∧ Rl nm s t ∧ ∀ a, s.pins a ≤ j
/-- two caches, and what is new beside -/
structure Two (w : World) (cb db : Nat) (s : arcI.St) (t : arcS.St) (N M : Nat) (x : Nat → Nat) (wc : World) : Prop where
  fr : Fr (fun _ => 100) x LC w wc
  ci : arcI.CIs x 0 wc cb s N
  cs : arcS.CIs x 10 wc db t M
theorem Two.below {w : World} {cb db : Nat} {s : arcI.St} {t : arcS.St} {N M : Nat} {x : Nat → Nat} {wc wd : World} (h : Two w cb db s t N M x wc) (hb : Below wc.heap.size wc wd) : Two w cb db s t N M (paint x wc.heap.size 8) wd := by
  have f : Fr x (paint x wc.heap.size 8) (fun e => e = 8) wc wd := Fr.of_below hb rfl
  exact ⟨h.fr.trans (f.mono (fun e he => by show e ≤ 16; omega)), h.ci.frame f (fun e he hh => by have := he.2; omega), h.cs.frame f (fun e he hh => by have := he.1; omega)⟩
theorem Two.turnI {w : World} {cb db : Nat} {s s' : arcI.St} {t : arcS.St} {N N' M : Nat} {x x' : Nat → Nat} {wc wd : World} (h : Two w cb db s t N M x wc) (f : Fr x x' (arcI.CD 0) wc wd) (c : arcI.CIs x' 0 wd cb s' N') : Two w cb db s' t N' M x' wd :=
  ⟨h.fr.trans (f.mono CDI), c, h.cs.frame f (fun e he hh => by have := he.1; have := hh.2; omega)⟩
theorem Two.turnS {w : World} {cb db : Nat} {s : arcI.St} {t t' : arcS.St} {N M M' : Nat} {x x' : Nat → Nat} {wc wd : World} (h : Two w cb db s t N M x wc) (f : Fr x x' (arcS.CD 10) wc wd) (c : arcS.CIs x' 10 wd db t' M') : Two w cb db s t' N M' x' wd :=
  ⟨h.fr.trans (f.mono CDS), h.ci.frame f (fun e he hh => by have := he.2; have := hh.1; omega), c⟩
/-- a block of the law's own -/
def Mine (x : Nat → Nat) (wc : World) (b : Nat) (o : Obj) : Prop := wc.heap[b]? = some o ∧ x b = 8
theorem Mine.new {x : Nat → Nat} {wc : World} (o : Obj) : Mine (paint x wc.heap.size 8) (wc.alloc o) wc.heap.size o := ⟨heap_alloc_new wc o, paint_new (Nat.le_refl _)⟩
theorem Mine.below {x : Nat → Nat} {wc wd : World} {b : Nat} {o : Obj} (h : Mine x wc b o) (hb : Below wc.heap.size wc wd) : Mine (paint x wc.heap.size 8) wd b o :=
  ⟨(hb.block b (lt_of_block h.1)).trans h.1, by rw [paint_old (lt_of_block h.1)]; exact h.2⟩
theorem Mine.turnI {x x' : Nat → Nat} {wc wd : World} {b : Nat} {o : Obj} (h : Mine x wc b o) (f : Fr x x' (arcI.CD 0) wc wd) : Mine x' wd b o :=
  ⟨(f.old b (lt_of_block h.1) (by rw [h.2]; exact fun hh => by have := hh.2; omega)).trans h.1, by rw [f.col b (lt_of_block h.1)]; exact h.2⟩
theorem Mine.turnS {x x' : Nat → Nat} {wc wd : World} {b : Nat} {o : Obj} (h : Mine x wc b o) (f : Fr x x' (arcS.CD 10) wc wd) : Mine x' wd b o :=
  ⟨(f.old b (lt_of_block h.1) (by rw [h.2]; exact fun hh => by have := hh.1; omega)).trans h.1, by rw [f.col b (lt_of_block h.1)]; exact h.2⟩
/-- three cells of a block of the law's own are written -/
theorem fr_set3 {x : Nat → Nat} {wc : World} {b : Nat} (hx : x b = 8) (u0 u1 u2 : Value) : Fr x x (fun e => e = 8) wc (((wc.setCell ⟨b, 0, none⟩ u0).setCell ⟨b, 1, none⟩ u1).setCell ⟨b, 2, none⟩ u2) :=
  Fr.same rfl rfl rfl (by simp) (fun c _ hC => arcI.set3_other wc (by rintro rfl; exact hC hx) u0 u1 u2)
theorem Two.set3 {w : World} {cb db : Nat} {s : arcI.St} {t : arcS.St} {N M : Nat} {x : Nat → Nat} {wc : World} (h : Two w cb db s t N M x wc) {b : Nat} (hx : x b = 8) (u0 u1 u2 : Value) :
    Two w cb db s t N M x (((wc.setCell ⟨b, 0, none⟩ u0).setCell ⟨b, 1, none⟩ u1).setCell ⟨b, 2, none⟩ u2) := by
  have f := fr_set3 (wc := wc) hx u0 u1 u2
  exact ⟨h.fr.trans (f.mono (fun e he => by show e ≤ 16; omega)), h.ci.frame f (fun e he hh => by have := he.2; omega), h.cs.frame f (fun e he hh => by have := he.1; omega)⟩
theorem Mine.set3 {x : Nat → Nat} {wc : World} {b c : Nat} {o : Obj} (h : Mine x wc c o) (hne : c ≠ b) (u0 u1 u2 : Value) : Mine x (((wc.setCell ⟨b, 0, none⟩ u0).setCell ⟨b, 1, none⟩ u1).setCell ⟨b, 2, none⟩ u2) c o :=
  ⟨(arcI.set3_other wc hne u0 u1 u2).trans h.1, h.2⟩
theorem Two.ofNB {w : World} {cb db : Nat} {s : arcI.St} {t : arcS.St} {N M : Nat} {x : Nat → Nat} {wc : World} (h : Two w cb db s t N M x wc) (ht : HasTab w) : HasTab wc :=
  ht.later (h.fr.old 0 ht.lt (by show ¬ (100 ≤ 16); omega))
end Go.Proofs.YthcdfdkhmlkneaaDoor.arcN
