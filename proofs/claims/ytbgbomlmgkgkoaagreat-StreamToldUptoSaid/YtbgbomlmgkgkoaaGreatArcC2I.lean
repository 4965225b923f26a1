/- The contracts of a cache's queues, in the cache's own words: has, take, put, list at each of the four; Has, Pins, Target. -/
import Derived.Test.YtbgbomlmgkgkoaaGreatArcCI
namespace Go.Proofs.YtbgbomlmgkgkoaaGreat.arcI
open Go.RowKit Go.Proofs.YtbgbomlmgkgkoaaGreat.own

/-- a cache turned: only its own blocks have, and what is new is its own -/
def Turned (x : Nat → Nat) (c0 : Nat) (w w' : World) (cb : Nat) (s : St) (N : Nat) : Prop := ∃ x', Fr x x' (CD c0) w w' ∧ CIs x' c0 w' cb s N
theorem C2_sub {c0 c d : Nat} (h1 : CD c0 c) (h2 : CD c0 d) : ∀ e, C2 c d e → CD c0 e := by
  intro e he
  rcases he with rfl | rfl
  · exact h1
  · exact h2
theorem C2_not {c d e : Nat} (h1 : e ≠ c) (h2 : e ≠ d) : ¬ C2 c d e := by
  intro he
  rcases he with h | h
  · exact h1 h
  · exact h2 h

theorem take_once (x : Nat → Nat) (c0 cb : Nat) (s : St) (N : Nat) (w : World) (k : K) (hok : ((Lit.int .i64 k).wf = true)) (h : CIs x c0 w cb s N) (hlen : s.once.length < 1099511627776) :
    Calls Tryz.prog 102 #[.pointer (some ⟨cb, 1, none⟩), (Value.int .i64 k)] w fun e w' => e = .returned (.tuple #[]) ∧ Turned x c0 w w' cb { s with once := s.once.erase k } N := by
  obtain ⟨a1, m1, a2, m2, a3, m3, a4, m4, pm, h0, hx, q1, q2, q3, q4, hp, hm⟩ := h
  have hlt := lt_of_block h0
  refine (take_any x (c0 + 1) cb 1 _ _ w a1 m1 s.once N k hok h0 rfl rfl q1 (by rw [hx]; omega) hlen).mono ?_
  rintro e w' ⟨rfl, x', vk, vm, hf, hq, hb⟩
  refine ⟨rfl, x', hf.mono (C2_sub ⟨by omega, by omega⟩ ⟨by rw [hx]; exact Nat.le_refl _, by rw [hx]; omega⟩), vk, vm, a2, m2, a3, m3, a4, m4, pm, hb, by rw [hf.col cb hlt]; exact hx, hq, q2.frame hf (C2_not (by omega) (by rw [hx]; omega)), q3.frame hf (C2_not (by omega) (by rw [hx]; omega)), q4.frame hf (C2_not (by omega) (by rw [hx]; omega)), by rw [hf.col pm hm.lt]; exact hp, ?_⟩
  exact (hm.frame (hf.old pm hm.lt (by rw [hp]; exact C2_not (by omega) (by rw [hx]; omega)))).mono (by omega)

theorem put_once (x : Nat → Nat) (c0 cb : Nat) (s : St) (N : Nat) (w : World) (k : K) (hok : ((Lit.int .i64 k).wf = true)) (h : CIs x c0 w cb s N) (hkk : k ∉ s.once) (hN : N < 1099511627776) (hlen : s.once.length < 1099511627776) :
    Calls Tryz.prog 143 #[.pointer (some ⟨cb, 1, none⟩), (Value.int .i64 k)] w fun e w' => e = .returned (.tuple #[]) ∧ Turned x c0 w w' cb { s with once := s.once ++ [k] } (N + 1) := by
  obtain ⟨a1, m1, a2, m2, a3, m3, a4, m4, pm, h0, hx, q1, q2, q3, q4, hp, hm⟩ := h
  have hlt := lt_of_block h0
  refine (put_any x (c0 + 1) cb 1 _ _ w a1 m1 s.once N k hok h0 rfl rfl q1 (by rw [hx]; omega) hkk hN hlen).mono ?_
  rintro e w' ⟨rfl, x', vk, vm, hf, hq, hb⟩
  refine ⟨rfl, x', hf.mono (C2_sub ⟨by omega, by omega⟩ ⟨by rw [hx]; exact Nat.le_refl _, by rw [hx]; omega⟩), vk, vm, a2, m2, a3, m3, a4, m4, pm, hb, by rw [hf.col cb hlt]; exact hx, hq, (q2.frame hf (C2_not (by omega) (by rw [hx]; omega))).mono (by omega), (q3.frame hf (C2_not (by omega) (by rw [hx]; omega))).mono (by omega), (q4.frame hf (C2_not (by omega) (by rw [hx]; omega))).mono (by omega), by rw [hf.col pm hm.lt]; exact hp, ?_⟩
  exact (hm.frame (hf.old pm hm.lt (by rw [hp]; exact C2_not (by omega) (by rw [hx]; omega)))).mono (by omega)

theorem has_once (x : Nat → Nat) (c0 cb : Nat) (s : St) (N : Nat) (w : World) (k : K) (hok : ((Lit.int .i64 k).wf = true)) (h : CIs x c0 w cb s N) :
    Calls Tryz.prog 101 #[.pointer (some ⟨cb, 1, none⟩), (Value.int .i64 k)] w fun e w' => e = .returned (.bool (decide (k ∈ s.once))) ∧ w = w' := by
  obtain ⟨a1, m1, a2, m2, a3, m3, a4, m4, pm, h0, _, q1, q2, q3, q4, _⟩ := h
  exact has_any x (c0 + 1) cb 1 w a1 m1 s.once N k hok (by rw [cell_of_row w cb _ _ _ _ h0]; rfl) q1
theorem free_once (x : Nat → Nat) (c0 cb : Nat) (s : St) (N : Nat) (w : World) (h : CIs x c0 w cb s N) :
    Calls Tryz.prog 144 #[.pointer (some ⟨cb, 0, none⟩), .pointer (some ⟨cb, 1, none⟩)] w fun e w' => e = freeRet (freeK s.pins s.once) ∧ w = w' := by
  obtain ⟨a1, m1, a2, m2, a3, m3, a4, m4, pm, h0, _, q1, q2, q3, q4, _, hm⟩ := h
  exact free_any x (c0 + 1) cb 1 pm w a1 m1 s.once N s.pins (by rw [cell_of_row w cb _ _ _ _ h0]; rfl) (by rw [cell_of_row w cb _ _ _ _ h0]; rfl) q1 hm

theorem take_often (x : Nat → Nat) (c0 cb : Nat) (s : St) (N : Nat) (w : World) (k : K) (hok : ((Lit.int .i64 k).wf = true)) (h : CIs x c0 w cb s N) (hlen : s.often.length < 1099511627776) :
    Calls Tryz.prog 102 #[.pointer (some ⟨cb, 3, none⟩), (Value.int .i64 k)] w fun e w' => e = .returned (.tuple #[]) ∧ Turned x c0 w w' cb { s with often := s.often.erase k } N := by
  obtain ⟨a1, m1, a2, m2, a3, m3, a4, m4, pm, h0, hx, q1, q2, q3, q4, hp, hm⟩ := h
  have hlt := lt_of_block h0
  refine (take_any x (c0 + 2) cb 3 _ _ w a2 m2 s.often N k hok h0 rfl rfl q2 (by rw [hx]; omega) hlen).mono ?_
  rintro e w' ⟨rfl, x', vk, vm, hf, hq, hb⟩
  refine ⟨rfl, x', hf.mono (C2_sub ⟨by omega, by omega⟩ ⟨by rw [hx]; exact Nat.le_refl _, by rw [hx]; omega⟩), a1, m1, vk, vm, a3, m3, a4, m4, pm, hb, by rw [hf.col cb hlt]; exact hx, q1.frame hf (C2_not (by omega) (by rw [hx]; omega)), hq, q3.frame hf (C2_not (by omega) (by rw [hx]; omega)), q4.frame hf (C2_not (by omega) (by rw [hx]; omega)), by rw [hf.col pm hm.lt]; exact hp, ?_⟩
  exact (hm.frame (hf.old pm hm.lt (by rw [hp]; exact C2_not (by omega) (by rw [hx]; omega)))).mono (by omega)

theorem put_often (x : Nat → Nat) (c0 cb : Nat) (s : St) (N : Nat) (w : World) (k : K) (hok : ((Lit.int .i64 k).wf = true)) (h : CIs x c0 w cb s N) (hkk : k ∉ s.often) (hN : N < 1099511627776) (hlen : s.often.length < 1099511627776) :
    Calls Tryz.prog 143 #[.pointer (some ⟨cb, 3, none⟩), (Value.int .i64 k)] w fun e w' => e = .returned (.tuple #[]) ∧ Turned x c0 w w' cb { s with often := s.often ++ [k] } (N + 1) := by
  obtain ⟨a1, m1, a2, m2, a3, m3, a4, m4, pm, h0, hx, q1, q2, q3, q4, hp, hm⟩ := h
  have hlt := lt_of_block h0
  refine (put_any x (c0 + 2) cb 3 _ _ w a2 m2 s.often N k hok h0 rfl rfl q2 (by rw [hx]; omega) hkk hN hlen).mono ?_
  rintro e w' ⟨rfl, x', vk, vm, hf, hq, hb⟩
  refine ⟨rfl, x', hf.mono (C2_sub ⟨by omega, by omega⟩ ⟨by rw [hx]; exact Nat.le_refl _, by rw [hx]; omega⟩), a1, m1, vk, vm, a3, m3, a4, m4, pm, hb, by rw [hf.col cb hlt]; exact hx, (q1.frame hf (C2_not (by omega) (by rw [hx]; omega))).mono (by omega), hq, (q3.frame hf (C2_not (by omega) (by rw [hx]; omega))).mono (by omega), (q4.frame hf (C2_not (by omega) (by rw [hx]; omega))).mono (by omega), by rw [hf.col pm hm.lt]; exact hp, ?_⟩
  exact (hm.frame (hf.old pm hm.lt (by rw [hp]; exact C2_not (by omega) (by rw [hx]; omega)))).mono (by omega)

theorem has_often (x : Nat → Nat) (c0 cb : Nat) (s : St) (N : Nat) (w : World) (k : K) (hok : ((Lit.int .i64 k).wf = true)) (h : CIs x c0 w cb s N) :
    Calls Tryz.prog 101 #[.pointer (some ⟨cb, 3, none⟩), (Value.int .i64 k)] w fun e w' => e = .returned (.bool (decide (k ∈ s.often))) ∧ w = w' := by
  obtain ⟨a1, m1, a2, m2, a3, m3, a4, m4, pm, h0, _, q1, q2, q3, q4, _⟩ := h
  exact has_any x (c0 + 2) cb 3 w a2 m2 s.often N k hok (by rw [cell_of_row w cb _ _ _ _ h0]; rfl) q2
theorem free_often (x : Nat → Nat) (c0 cb : Nat) (s : St) (N : Nat) (w : World) (h : CIs x c0 w cb s N) :
    Calls Tryz.prog 144 #[.pointer (some ⟨cb, 0, none⟩), .pointer (some ⟨cb, 3, none⟩)] w fun e w' => e = freeRet (freeK s.pins s.often) ∧ w = w' := by
  obtain ⟨a1, m1, a2, m2, a3, m3, a4, m4, pm, h0, _, q1, q2, q3, q4, _, hm⟩ := h
  exact free_any x (c0 + 2) cb 3 pm w a2 m2 s.often N s.pins (by rw [cell_of_row w cb _ _ _ _ h0]; rfl) (by rw [cell_of_row w cb _ _ _ _ h0]; rfl) q2 hm

theorem take_wonce (x : Nat → Nat) (c0 cb : Nat) (s : St) (N : Nat) (w : World) (k : K) (hok : ((Lit.int .i64 k).wf = true)) (h : CIs x c0 w cb s N) (hlen : s.wonce.length < 1099511627776) :
    Calls Tryz.prog 102 #[.pointer (some ⟨cb, 5, none⟩), (Value.int .i64 k)] w fun e w' => e = .returned (.tuple #[]) ∧ Turned x c0 w w' cb { s with wonce := s.wonce.erase k } N := by
  obtain ⟨a1, m1, a2, m2, a3, m3, a4, m4, pm, h0, hx, q1, q2, q3, q4, hp, hm⟩ := h
  have hlt := lt_of_block h0
  refine (take_any x (c0 + 3) cb 5 _ _ w a3 m3 s.wonce N k hok h0 rfl rfl q3 (by rw [hx]; omega) hlen).mono ?_
  rintro e w' ⟨rfl, x', vk, vm, hf, hq, hb⟩
  refine ⟨rfl, x', hf.mono (C2_sub ⟨by omega, by omega⟩ ⟨by rw [hx]; exact Nat.le_refl _, by rw [hx]; omega⟩), a1, m1, a2, m2, vk, vm, a4, m4, pm, hb, by rw [hf.col cb hlt]; exact hx, q1.frame hf (C2_not (by omega) (by rw [hx]; omega)), q2.frame hf (C2_not (by omega) (by rw [hx]; omega)), hq, q4.frame hf (C2_not (by omega) (by rw [hx]; omega)), by rw [hf.col pm hm.lt]; exact hp, ?_⟩
  exact (hm.frame (hf.old pm hm.lt (by rw [hp]; exact C2_not (by omega) (by rw [hx]; omega)))).mono (by omega)

theorem put_wonce (x : Nat → Nat) (c0 cb : Nat) (s : St) (N : Nat) (w : World) (k : K) (hok : ((Lit.int .i64 k).wf = true)) (h : CIs x c0 w cb s N) (hkk : k ∉ s.wonce) (hN : N < 1099511627776) (hlen : s.wonce.length < 1099511627776) :
    Calls Tryz.prog 143 #[.pointer (some ⟨cb, 5, none⟩), (Value.int .i64 k)] w fun e w' => e = .returned (.tuple #[]) ∧ Turned x c0 w w' cb { s with wonce := s.wonce ++ [k] } (N + 1) := by
  obtain ⟨a1, m1, a2, m2, a3, m3, a4, m4, pm, h0, hx, q1, q2, q3, q4, hp, hm⟩ := h
  have hlt := lt_of_block h0
  refine (put_any x (c0 + 3) cb 5 _ _ w a3 m3 s.wonce N k hok h0 rfl rfl q3 (by rw [hx]; omega) hkk hN hlen).mono ?_
  rintro e w' ⟨rfl, x', vk, vm, hf, hq, hb⟩
  refine ⟨rfl, x', hf.mono (C2_sub ⟨by omega, by omega⟩ ⟨by rw [hx]; exact Nat.le_refl _, by rw [hx]; omega⟩), a1, m1, a2, m2, vk, vm, a4, m4, pm, hb, by rw [hf.col cb hlt]; exact hx, (q1.frame hf (C2_not (by omega) (by rw [hx]; omega))).mono (by omega), (q2.frame hf (C2_not (by omega) (by rw [hx]; omega))).mono (by omega), hq, (q4.frame hf (C2_not (by omega) (by rw [hx]; omega))).mono (by omega), by rw [hf.col pm hm.lt]; exact hp, ?_⟩
  exact (hm.frame (hf.old pm hm.lt (by rw [hp]; exact C2_not (by omega) (by rw [hx]; omega)))).mono (by omega)

theorem has_wonce (x : Nat → Nat) (c0 cb : Nat) (s : St) (N : Nat) (w : World) (k : K) (hok : ((Lit.int .i64 k).wf = true)) (h : CIs x c0 w cb s N) :
    Calls Tryz.prog 101 #[.pointer (some ⟨cb, 5, none⟩), (Value.int .i64 k)] w fun e w' => e = .returned (.bool (decide (k ∈ s.wonce))) ∧ w = w' := by
  obtain ⟨a1, m1, a2, m2, a3, m3, a4, m4, pm, h0, _, q1, q2, q3, q4, _⟩ := h
  exact has_any x (c0 + 3) cb 5 w a3 m3 s.wonce N k hok (by rw [cell_of_row w cb _ _ _ _ h0]; rfl) q3
theorem take_woften (x : Nat → Nat) (c0 cb : Nat) (s : St) (N : Nat) (w : World) (k : K) (hok : ((Lit.int .i64 k).wf = true)) (h : CIs x c0 w cb s N) (hlen : s.woften.length < 1099511627776) :
    Calls Tryz.prog 102 #[.pointer (some ⟨cb, 7, none⟩), (Value.int .i64 k)] w fun e w' => e = .returned (.tuple #[]) ∧ Turned x c0 w w' cb { s with woften := s.woften.erase k } N := by
  obtain ⟨a1, m1, a2, m2, a3, m3, a4, m4, pm, h0, hx, q1, q2, q3, q4, hp, hm⟩ := h
  have hlt := lt_of_block h0
  refine (take_any x (c0 + 4) cb 7 _ _ w a4 m4 s.woften N k hok h0 rfl rfl q4 (by rw [hx]; omega) hlen).mono ?_
  rintro e w' ⟨rfl, x', vk, vm, hf, hq, hb⟩
  refine ⟨rfl, x', hf.mono (C2_sub ⟨by omega, by omega⟩ ⟨by rw [hx]; exact Nat.le_refl _, by rw [hx]; omega⟩), a1, m1, a2, m2, a3, m3, vk, vm, pm, hb, by rw [hf.col cb hlt]; exact hx, q1.frame hf (C2_not (by omega) (by rw [hx]; omega)), q2.frame hf (C2_not (by omega) (by rw [hx]; omega)), q3.frame hf (C2_not (by omega) (by rw [hx]; omega)), hq, by rw [hf.col pm hm.lt]; exact hp, ?_⟩
  exact (hm.frame (hf.old pm hm.lt (by rw [hp]; exact C2_not (by omega) (by rw [hx]; omega)))).mono (by omega)

theorem put_woften (x : Nat → Nat) (c0 cb : Nat) (s : St) (N : Nat) (w : World) (k : K) (hok : ((Lit.int .i64 k).wf = true)) (h : CIs x c0 w cb s N) (hkk : k ∉ s.woften) (hN : N < 1099511627776) (hlen : s.woften.length < 1099511627776) :
    Calls Tryz.prog 143 #[.pointer (some ⟨cb, 7, none⟩), (Value.int .i64 k)] w fun e w' => e = .returned (.tuple #[]) ∧ Turned x c0 w w' cb { s with woften := s.woften ++ [k] } (N + 1) := by
  obtain ⟨a1, m1, a2, m2, a3, m3, a4, m4, pm, h0, hx, q1, q2, q3, q4, hp, hm⟩ := h
  have hlt := lt_of_block h0
  refine (put_any x (c0 + 4) cb 7 _ _ w a4 m4 s.woften N k hok h0 rfl rfl q4 (by rw [hx]; omega) hkk hN hlen).mono ?_
  rintro e w' ⟨rfl, x', vk, vm, hf, hq, hb⟩
  refine ⟨rfl, x', hf.mono (C2_sub ⟨by omega, by omega⟩ ⟨by rw [hx]; exact Nat.le_refl _, by rw [hx]; omega⟩), a1, m1, a2, m2, a3, m3, vk, vm, pm, hb, by rw [hf.col cb hlt]; exact hx, (q1.frame hf (C2_not (by omega) (by rw [hx]; omega))).mono (by omega), (q2.frame hf (C2_not (by omega) (by rw [hx]; omega))).mono (by omega), (q3.frame hf (C2_not (by omega) (by rw [hx]; omega))).mono (by omega), hq, by rw [hf.col pm hm.lt]; exact hp, ?_⟩
  exact (hm.frame (hf.old pm hm.lt (by rw [hp]; exact C2_not (by omega) (by rw [hx]; omega)))).mono (by omega)

theorem has_woften (x : Nat → Nat) (c0 cb : Nat) (s : St) (N : Nat) (w : World) (k : K) (hok : ((Lit.int .i64 k).wf = true)) (h : CIs x c0 w cb s N) :
    Calls Tryz.prog 101 #[.pointer (some ⟨cb, 7, none⟩), (Value.int .i64 k)] w fun e w' => e = .returned (.bool (decide (k ∈ s.woften))) ∧ w = w' := by
  obtain ⟨a1, m1, a2, m2, a3, m3, a4, m4, pm, h0, _, q1, q2, q3, q4, _⟩ := h
  exact has_any x (c0 + 4) cb 7 w a4 m4 s.woften N k hok (by rw [cell_of_row w cb _ _ _ _ h0]; rfl) q4
theorem QP.recolor {x x' : Nat → Nat} {c : Nat} {w : World} {vk vm : Value} {keys : List K} {N : Nat} (h : QP x c w vk vm keys N) (hx : ∀ b, b < w.heap.size → x b = c → x' b = c) : QP x' c w vk vm keys N := by
  obtain ⟨h1, h2, h3, h4, h5⟩ := h
  refine ⟨h1, fun b hb => hx b (h1.lt b hb).2 (h2 b hb), h3, h4, ?_⟩
  rcases h5 with h5 | ⟨mb, a, b, d⟩
  · exact .inl h5
  · exact .inr ⟨mb, a, hx mb d.lt b, d⟩
theorem CIs.recolor {x x' : Nat → Nat} {c0 : Nat} {w : World} {cb : Nat} {s : St} {N : Nat} (h : CIs x c0 w cb s N) (hx : ∀ b, b < w.heap.size → CD c0 (x b) → x' b = x b) : CIs x' c0 w cb s N := by
  obtain ⟨a1, m1, a2, m2, a3, m3, a4, m4, pm, h0, hc, q1, q2, q3, q4, hp, hm⟩ := h
  have key : ∀ i, i ≤ 5 → ∀ b, b < w.heap.size → x b = c0 + i → x' b = c0 + i := fun i hi b hb hxb => by rw [hx b hb (by rw [hxb]; exact ⟨by omega, by omega⟩)]; exact hxb
  exact ⟨a1, m1, a2, m2, a3, m3, a4, m4, pm, h0, key 0 (by omega) cb (lt_of_block h0) hc, q1.recolor (key 1 (by omega)), q2.recolor (key 2 (by omega)), q3.recolor (key 3 (by omega)), q4.recolor (key 4 (by omega)), key 5 (by omega) pm hm.lt hp, hm⟩

/-- the end of a call that makes variables of its own (colour c0 + 6), turns the cache, and writes its own variables -/
theorem turned_end {x x3 x4 : Nat → Nat} {c0 : Nat} {w w1 w3 w4 : World} {cb : Nat} {s : St} {N : Nat} (hb : Below w.heap.size w w1) (hf : Fr (paint x w.heap.size (c0 + 6)) x3 (CD c0) w1 w3) (hc : CIs x3 c0 w3 cb s N)
    (he : Fr x3 x4 (CT c0) w3 w4) (ho : ∀ b, b < w.heap.size → w4.heap[b]? = w3.heap[b]?) : Turned x c0 w w4 cb s N := by
  have h4 := hc.temp he
  have hz1 := hb.size
  have hz3 := hf.size
  have hz4 := he.size
  refine ⟨fun b => if b < w.heap.size then x b else if x4 b = c0 + 6 then c0 + 5 else x4 b, ⟨he.os.trans (hf.os.trans hb.os), he.tape.trans (hf.tape.trans hb.tape), he.output.trans (hf.output.trans hb.output), by omega, fun b hb' => if_pos hb', ?_, ?_⟩, ?_⟩
  · intro b h1 h2
    show CD c0 (if b < w.heap.size then x b else if x4 b = c0 + 6 then c0 + 5 else x4 b)
    rw [if_neg (by omega)]
    by_cases h6 : x4 b = c0 + 6
    · rw [if_pos h6]; exact ⟨by omega, by omega⟩
    · rw [if_neg h6]
      rcases Nat.lt_or_ge b w3.heap.size with hlt | hge
      · rw [he.col b hlt] at h6 ⊢
        rcases Nat.lt_or_ge b w1.heap.size with hlt1 | hge1
        · rw [hf.col b hlt1, paint_new h1] at h6; exact absurd rfl h6
        · exact hf.new b hge1 hlt
      · exact absurd (he.new b hge h2) h6
  · intro b hlt hC
    rw [ho b hlt, hf.old b (by omega) (by rw [paint_old hlt]; exact hC)]
    exact hb.block b hlt
  · refine h4.recolor (fun b hlt hC => ?_)
    show (if b < w.heap.size then x b else if x4 b = c0 + 6 then c0 + 5 else x4 b) = x4 b
    by_cases h : b < w.heap.size
    · rw [if_pos h, he.col b (by omega), hf.col b (by omega), paint_old h]
    · rw [if_neg h, if_neg (by unfold CD at hC; omega)]

/-! ### Has -/
theorem Has_nil (w : World) (k : K) : Calls Tryz.prog 100 #[.pointer none, (Value.int .i64 k)] w fun e w' => e = .returned (.bool false) ∧ w = w' := by
  go_enter Tryz.func100, Tryz.ntmps100
  go_wp2_with fail
  go_ret
  exact ⟨rfl, rfl⟩
theorem Has_any (x : Nat → Nat) (c0 cb : Nat) (s : St) (N : Nat) (w : World) (k : K) (hok : ((Lit.int .i64 k).wf = true)) (h : CIs x c0 w cb s N) :
    Calls Tryz.prog 100 #[.pointer (some ⟨cb, 0, none⟩), (Value.int .i64 k)] w fun e w' => e = .returned (.bool (decide (k ∈ s.once ∨ k ∈ s.often))) ∧ w = w' := by
  have H := Lib.hid h
  clear h
  by_cases h1 : k ∈ s.once
  · have d1 : Hid (decide (k ∈ s.once) = true) := Lib.hid (decide_eq_true h1)
    have R : Hid (decide (k ∈ s.once ∨ k ∈ s.often) = true) := Lib.hid (decide_eq_true (.inl h1))
    clear h1
    go_enter Tryz.func100, Tryz.ntmps100
    go_wp2_with fail
    refine (has_once x c0 cb s N w k hok H.out).mono ?_
    rintro e w' ⟨rfl, rfl⟩
    rw [d1.out]
    go_wp2_with fail
    go_ret
    exact ⟨by rw [R.out]; rfl, rfl⟩
  · have d1 : Hid (decide (k ∈ s.once) = false) := Lib.hid (decide_eq_false h1)
    have R : Hid (decide (k ∈ s.once ∨ k ∈ s.often) = decide (k ∈ s.often)) := Lib.hid (by simp [h1])
    clear h1
    go_enter Tryz.func100, Tryz.ntmps100
    go_wp2_with fail
    refine (has_once x c0 cb s N w k hok H.out).mono ?_
    rintro e w' ⟨rfl, rfl⟩
    rw [d1.out]
    go_wp2_with fail
    refine (has_often x c0 cb s N w k hok H.out).mono ?_
    rintro e w' ⟨rfl, rfl⟩
    go_wp2_with fail
    go_ret
    exact ⟨by rw [R.out]; rfl, rfl⟩

end Go.Proofs.YtbgbomlmgkgkoaaGreat.arcI
