/- A cache in memory; the contracts of list, free, full, Has. -/
import Derived.Test.YtbgbomlmgkgkoaaGreatArcQ3I
namespace Go.Proofs.YtbgbomlmgkgkoaaGreat.arcI
open Go.RowKit Go.Proofs.YtbgbomlmgkgkoaaGreat.own

/-- the first key that is not pinned -/
def freeK (pins : K → Nat) (keys : List K) : Option K := keys.find? fun k => pins k == 0
theorem freeK_cons (pins : K → Nat) (a : K) (l : List K) : freeK pins (a :: l) = if pins a = 0 then some a else freeK pins l := by
  unfold freeK
  by_cases h : pins a = 0 <;> simp [h]
theorem freeK_mem {pins : K → Nat} {l : List K} {a : K} (h : freeK pins l = some a) : a ∈ l ∧ pins a = 0 :=
  ⟨List.mem_of_find?_eq_some h, by simpa using List.find?_some h⟩
def freeRet (r : Option K) : Ending := match r with
  | some k => .returned (.tuple #[(Value.int .i64 k), .bool true])
  | none => .returned (.tuple #[(Value.int .i64 0), .bool false])

theorem keys_open {w : World} {base : Nat} {v : Value} {keys : List K} (h : w.ownsRow base 3 1 v keys.length (kvs keys)) :
    ∃ aT cT, v = .slice aT keys.length cT ∧ keys.length ≤ maxLen ∧ Hid (∀ k (_ : k < keys.length), ∃ g, aT = some ⟨g, 0, none⟩ ∧ g < w.heap.size ∧ base ≤ g ∧ w.cell? ⟨g, k, none⟩ = some (Value.int .i64 keys[k])) := by
  rcases h.2 with ⟨rfl, h0⟩ | ⟨g, cap, cur, rfl, hb, hg, hn, hm, _⟩
  · exact ⟨none, 0, by rw [h0], by rw [h0]; exact Nat.zero_le _, Lib.hid fun k hk => by omega⟩
  · refine ⟨_, _, rfl, Nat.le_trans hn hm, Lib.hid fun k hk => ⟨g, rfl, lt_of_block hg, hb, ?_⟩⟩
    rw [h.cellAt k (by omega)]
    simp [kvs, hk]

set_option maxHeartbeats 1600000 in
theorem free_any (x : Nat → Nat) (c cb o pm : Nat) (w : World) (vk vm : Value) (keys : List K) (N : Nat) (pins : K → Nat)
    (hk : w.cell? ⟨cb, o, none⟩ = some vk) (hp : w.cell? ⟨cb, 10, none⟩ = some (.map (some pm))) (hq : QP x c w vk vm keys N) (hm : MapIs w pm N pins) :
    Calls Tryz.prog 144 #[.pointer (some ⟨cb, 0, none⟩), .pointer (some ⟨cb, o, none⟩)] w fun e w' => e = freeRet (freeK pins keys) ∧ w = w' := by
  obtain ⟨aT, cT, hv, hlm, HC⟩ := keys_open hq.kvs
  subst hv
  have HM := Lib.hid hm
  have HQ := Lib.hid hq
  unfold maxLen at hlm
  clear hq hm
  go_enter Tryz.func144, Tryz.ntmps144
  go_wp2_with fail
  go_loop [14] (fun i => ∃ k : Nat, k ≤ keys.length ∧ i = .int .i64 k ∧ freeK pins keys = freeK pins (keys.drop k)) (fun i => keys.length - (intOf i).toNat)
  case atStart => exact ⟨0, Nat.zero_le _, rfl, rfl⟩
  case round =>
    obtain ⟨k, hk, rfl, hf⟩ := hrel
    have HF := Lib.hid hf
    clear hf
    by_cases hlt : k < keys.length
    · obtain ⟨g, hg, _, _, hcell⟩ := HC.out k hlt
      subst hg
      have hl := HM.out.look (HQ.out.2.2.2.1 keys[k] (List.getElem_mem hlt))
      have HD := Lib.hid (List.drop_eq_getElem_cons hlt)
      by_cases hz : pins keys[k] = 0
      · have R : Hid (freeK pins keys = some keys[k]) := Lib.hid (by rw [HF.out, HD.out, freeK_cons, if_pos hz])
        rw [hz] at hl
        clear hz
        go_wp2_with fail
        go_ret2
        exact ⟨by rw [R.out]; rfl, rfl⟩
      · have R : Hid (freeK pins keys = freeK pins (keys.drop (k + 1))) := Lib.hid (by rw [HF.out, HD.out, freeK_cons, if_neg hz])
        have hb : (((pins keys[k] : Nat) : Int) == 0) = false := beq_eq_false_iff_ne.2 (by omega)
        clear hz
        go_wp2_with fail
        go_round
        case rel => exact ⟨k + 1, by omega, by go_num, R.out⟩
        case measure => simp [intOf]; omega
    · have R : Hid (freeK pins keys = none) := Lib.hid (by rw [HF.out, List.drop_eq_nil_of_le (by omega)]; rfl)
      go_wp2_with fail
      go_ret2
      exact ⟨by rw [R.out]; rfl, rfl⟩

/-! ### a cache -/
structure St where
  size : Nat
  once : List K
  often : List K
  wonce : List K
  woften : List K
  target : Nat
  pins : K → Nat

def cacheCells (sz : Nat) (a1 m1 a2 m2 a3 m3 a4 m4 : Value) (tg pm : Nat) : Array Value := #[.int .i64 sz, a1, m1, a2, m2, a3, m3, a4, m4, .int .i64 tg, .map (some pm)]

/-- what a cache holds stays within these bounds -/
structure St.Fit (s : St) : Prop where
  size : 1 ≤ s.size ∧ s.size ≤ 4096
  target : s.target ≤ s.size
  once : s.once.length ≤ s.size
  often : s.once.length + s.often.length ≤ s.size
  first : s.once.length + s.wonce.length ≤ s.size
  all : s.once.length + s.often.length + s.wonce.length + s.woften.length ≤ 2 * s.size
  nodup : (s.once ++ (s.often ++ (s.wonce ++ s.woften))).Nodup

def CIs (x : Nat → Nat) (c0 : Nat) (w : World) (cb : Nat) (s : St) (N : Nat) : Prop :=
  ∃ a1 m1 a2 m2 a3 m3 a4 m4 pm, w.heap[cb]? = some (.cells (cacheCells s.size a1 m1 a2 m2 a3 m3 a4 m4 s.target pm) 197 (0, 0)) ∧ x cb = c0 ∧
    QP x (c0 + 1) w a1 m1 s.once N ∧ QP x (c0 + 2) w a2 m2 s.often N ∧ QP x (c0 + 3) w a3 m3 s.wonce N ∧ QP x (c0 + 4) w a4 m4 s.woften N ∧ x pm = c0 + 5 ∧ MapIs w pm N s.pins

/-- the colours of a cache's own blocks; c0 + 6: what its calls make besides -/
def CC (c0 : Nat) : Nat → Prop := fun e => c0 ≤ e ∧ e ≤ c0 + 6
def CD (c0 : Nat) : Nat → Prop := fun e => c0 ≤ e ∧ e ≤ c0 + 5
def CT (c0 : Nat) : Nat → Prop := fun e => e = c0 + 6

theorem CIs.frame {x x' : Nat → Nat} {C : Nat → Prop} {c0 : Nat} {w w' : World} {cb : Nat} {s : St} {N : Nat} (h : CIs x c0 w cb s N) (hf : Fr x x' C w w') (hC : ∀ e, CD c0 e → ¬ C e) : CIs x' c0 w' cb s N := by
  obtain ⟨a1, m1, a2, m2, a3, m3, a4, m4, pm, h0, hx, q1, q2, q3, q4, hp, hm⟩ := h
  have hlt := lt_of_block h0
  refine ⟨a1, m1, a2, m2, a3, m3, a4, m4, pm, ?_, ?_, q1.frame hf (hC _ ⟨by omega, by omega⟩), q2.frame hf (hC _ ⟨by omega, by omega⟩), q3.frame hf (hC _ ⟨by omega, by omega⟩), q4.frame hf (hC _ ⟨by omega, by omega⟩), ?_, ?_⟩
  · rw [hf.old cb hlt (by rw [hx]; exact hC _ ⟨Nat.le_refl _, by omega⟩)]; exact h0
  · rw [hf.col cb hlt]; exact hx
  · rw [hf.col pm hm.lt]; exact hp
  · exact hm.frame (hf.old pm hm.lt (by rw [hp]; exact hC _ ⟨by omega, by omega⟩))

theorem CIs.mono {x : Nat → Nat} {c0 : Nat} {w : World} {cb : Nat} {s : St} {N N' : Nat} (h : CIs x c0 w cb s N) (hN : N ≤ N') : CIs x c0 w cb s N' := by
  obtain ⟨a1, m1, a2, m2, a3, m3, a4, m4, pm, h0, hx, q1, q2, q3, q4, hp, hm⟩ := h
  exact ⟨a1, m1, a2, m2, a3, m3, a4, m4, pm, h0, hx, q1.mono hN, q2.mono hN, q3.mono hN, q4.mono hN, hp, hm.mono hN⟩
theorem CIs.temp {x x' : Nat → Nat} {c0 : Nat} {w w' : World} {cb : Nat} {s : St} {N : Nat} (h : CIs x c0 w cb s N) (hf : Fr x x' (CT c0) w w') : CIs x' c0 w' cb s N :=
  h.frame hf (fun e he hc => by unfold CT at hc; have := he.2; omega)
theorem CT_sub (c0 : Nat) : ∀ e, CT c0 e → CC c0 e := fun e he => by unfold CT at he; subst he; exact ⟨by omega, Nat.le_refl _⟩
theorem Fr.drewN {x x' : Nat → Nat} {C : Nat → Prop} {w w' : World} (h : Fr x x' C w w') (n : Nat) : Fr x x' C w (w'.drewN n) := ⟨h.os, h.tape, h.output, h.size, h.col, h.new, h.old⟩
theorem CIs.drewN {x : Nat → Nat} {c0 : Nat} {w : World} {cb : Nat} {s : St} {N : Nat} (h : CIs x c0 w cb s N) (n : Nat) : CIs x c0 (w.drewN n) cb s N := h

/-! ### full -/
theorem full_any (x : Nat → Nat) (c0 cb : Nat) (s : St) (N : Nat) (w : World) (h : CIs x c0 w cb s N) (h1 : s.once.length ≤ 8192) (h2 : s.often.length ≤ 8192) :
    Calls Tryz.prog 145 #[.pointer (some ⟨cb, 0, none⟩)] w fun e w' => e = .returned (.bool (decide (s.once.length + s.often.length = s.size))) ∧ ∃ m, w.drewN m = w' := by
  obtain ⟨a1, m1, a2, m2, a3, m3, a4, m4, pm, h0, _, q1, q2, _⟩ := h
  obtain ⟨b1, p1, e1⟩ := own_shape q1.kvs
  obtain ⟨b2, p2, e2⟩ := own_shape q2.kvs
  subst e1
  subst e2
  have c1 : w.cell? ⟨cb, 0, none⟩ = some (.int .i64 s.size) := by rw [cell_of_row w cb _ _ _ _ h0]; rfl
  have c2 : w.cell? ⟨cb, 1, none⟩ = some (.slice b1 s.once.length p1) := by rw [cell_of_row w cb _ _ _ _ h0]; rfl
  have c3 : w.cell? ⟨cb, 3, none⟩ = some (.slice b2 s.often.length p2) := by rw [cell_of_row w cb _ _ _ _ h0]; rfl
  have R : Hid ((((s.once.length : Nat) : Int) + (s.often.length : Nat) == (s.size : Nat)) = decide (s.once.length + s.often.length = s.size)) := Lib.hid (by
    by_cases hh : s.once.length + s.often.length = s.size
    · rw [decide_eq_true hh]; exact beq_iff_eq.2 (by omega)
    · rw [decide_eq_false hh]; exact beq_eq_false_iff_ne.2 (by omega))
  clear h0 q1 q2
  go_enter Tryz.func145, Tryz.ntmps145
  go_wp2_with fail
  go_quiet (fail)
  go_wp2_with fail
  go_ret
  exact ⟨by rw [← R.out]; rfl, _, rfl⟩

end Go.Proofs.YtbgbomlmgkgkoaaGreat.arcI
