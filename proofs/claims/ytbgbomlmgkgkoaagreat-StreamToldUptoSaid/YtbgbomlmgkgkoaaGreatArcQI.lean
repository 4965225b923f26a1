/- The contracts of a queue's methods: has, put. -/
import Derived.Test.YtbgbomlmgkgkoaaGreatOwn
import Derived.Test.YtbgbomlmgkgkoaaGreatArcMemI
namespace Go.Proofs.YtbgbomlmgkgkoaaGreat.arcI
open Go.RowKit Go.Proofs.YtbgbomlmgkgkoaaGreat.own

def memF (keys : List K) : K → Nat := fun k => if k ∈ keys then 1 else 0
theorem memF_nil : memF [] = fun _ => 0 := by funext k; simp [memF]
theorem memF_snoc (keys : List K) (k : K) : memF (keys ++ [k]) = upd (memF keys) k 1 := by
  funext x
  by_cases h : x = k
  · subst h; rw [upd_same]; simp [memF]
  · rw [upd_other _ _ h]; simp [memF, h]
theorem memF_erase {keys : List K} (hn : keys.Nodup) (k : K) : memF (keys.erase k) = upd (memF keys) k 0 := by
  funext x
  by_cases h : x = k
  · subst h; rw [upd_same]; simp [memF, hn.mem_erase_iff]
  · rw [upd_other _ _ h]; simp [memF, hn.mem_erase_iff, h]

/-- a queue's two values hold these keys; its blocks bear the colour c -/
def QP (x : Nat → Nat) (c : Nat) (w : World) (vk vm : Value) (keys : List K) (N : Nat) : Prop :=
  w.ownsRow 0 3 1 vk keys.length (keys.map fun k => (Value.int .i64 k)) ∧ (∀ b, vk.ownBlock = some b → x b = c) ∧ keys.Nodup ∧ (∀ k ∈ keys, ((Lit.int .i64 k).wf = true)) ∧
  ((vm = .map none ∧ keys = []) ∨ ∃ mb, vm = .map (some mb) ∧ x mb = c ∧ MapIs w mb N (memF keys))

theorem QP.frame {x x' : Nat → Nat} {C : Nat → Prop} {c : Nat} {w w' : World} {vk vm : Value} {keys : List K} {N : Nat} (h : QP x c w vk vm keys N) (hf : Fr x x' C w w') (hc : ¬ C c) : QP x' c w' vk vm keys N := by
  obtain ⟨h1, h2, h3, h4, h5⟩ := h
  refine ⟨⟨h1.1, ?_⟩, fun b hb => ?_, h3, h4, ?_⟩
  · rcases h1.2 with hn | ⟨g, cap, cur, hv, hb, hg, r⟩
    · exact .inl hn
    · refine .inr ⟨g, cap, cur, hv, hb, ?_, r⟩
      have hx := h2 g (by rw [hv]; rfl)
      rw [hf.old g (lt_of_block hg) (by rw [hx]; exact hc)]
      exact hg
  · have := h1.lt b hb
    rw [hf.col b this.2]; exact h2 b hb
  · rcases h5 with h5 | ⟨mb, hm, hx, hmap⟩
    · exact .inl h5
    · refine .inr ⟨mb, hm, ?_, hmap.frame (hf.old mb hmap.lt (by rw [hx]; exact hc))⟩
      rw [hf.col mb hmap.lt]; exact hx
theorem QP.mono {x : Nat → Nat} {c : Nat} {w : World} {vk vm : Value} {keys : List K} {N N' : Nat} (h : QP x c w vk vm keys N) (hN : N ≤ N') : QP x c w vk vm keys N' := by
  obtain ⟨h1, h2, h3, h4, h5⟩ := h
  exact ⟨h1, h2, h3, h4, h5.imp id fun ⟨mb, a, b, d⟩ => ⟨mb, a, b, d.mono hN⟩⟩
theorem QP.nil (x : Nat → Nat) (c : Nat) (w : World) (N : Nat) : QP x c w (.slice none 0 0) (.map none) [] N :=
  ⟨World.ownsRow_nil _ _ _ _, fun b hb => (by simp [Value.ownBlock] at hb), List.nodup_nil, fun k hk => (by cases hk), .inl ⟨rfl, rfl⟩⟩

/-! ### has -/
theorem has_any (x : Nat → Nat) (c cb o : Nat) (w : World) (vk vm : Value) (keys : List K) (N : Nat) (k : K) (hok : ((Lit.int .i64 k).wf = true)) (hc : w.cell? ⟨cb, o + 1, none⟩ = some vm) (hq : QP x c w vk vm keys N) :
    Calls Tryz.prog 101 #[.pointer (some ⟨cb, o, none⟩), (Value.int .i64 k)] w fun e w' => e = .returned (.bool (decide (k ∈ keys))) ∧ w = w' := by
  obtain ⟨_, _, _, _, h5⟩ := hq
  rcases h5 with ⟨rfl, rfl⟩ | ⟨mb, rfl, _, hm⟩
  · have hl := look_nil (w := w) hok
    go_enter Tryz.func101, Tryz.ntmps101
    go_wp2
    go_ret
    exact ⟨by simp, rfl⟩
  · have hl := hm.look hok
    by_cases hk : k ∈ keys
    · have hv : memF keys k = 1 := by simp [memF, hk]
      rw [hv] at hl
      clear hv hm
      go_enter Tryz.func101, Tryz.ntmps101
      go_wp2
      go_ret
      exact ⟨by simp [hk], rfl⟩
    · have hv : memF keys k = 0 := by simp [memF, hk]
      rw [hv] at hl
      clear hv hm
      go_enter Tryz.func101, Tryz.ntmps101
      go_wp2
      go_ret
      exact ⟨by simp [hk], rfl⟩

end Go.Proofs.YtbgbomlmgkgkoaaGreat.arcI
