/- list: Bits, Encode. -/
import Derived.Test.YtflnpcgnenhogaaDoorLsR
namespace Go.Proofs.YtflnpcgnenhogaaDoor.ls
open Go.RowKit Go.Proofs.YtflnpcgnenhogaaDoor.own Go.Proofs.YtflnpcgnenhogaaDoor.bit

/-! ### how great numbers are, how many there are -/
theorem zig_lt2 {v x : Nat} (hv : v < 65536) (hx : x < 65536) : zig ((v : Int) - x) < 262144 := by
  unfold zig
  split <;> omega
theorem rnm_all : ∀ (i : Nat) (l : List Nat), (∀ n ∈ l, n ≤ 65536) → ∀ v ∈ rnm i l, v < 262144
  | _, [], _, v, hv => by cases hv
  | i, n :: l, h, v, hv => by
    have h0 := h n (List.mem_cons_self ..)
    rcases List.mem_cons.1 hv with rfl | hv
    · omega
    · exact rnm_all (i + 1) l (fun m hm => h m (List.mem_cons_of_mem _ hm)) v hv
theorem lnm_all (x itv : Nat) (hx : x < 65536) : ∀ (e : Option Nat) (l : List (Nat × Nat)), Apart itv e l → ∀ v ∈ lnm x itv e l, v < 262144
  | none, [], _, v, hv => by cases hv
  | some _, [], _, v, hv => by cases hv
  | none, (f, n) :: l, h, v, hv => by
    obtain ⟨h1, h2, h3, h4⟩ := h
    rw [lnm_cons] at hv
    rcases List.mem_cons.1 hv with rfl | hv
    · exact zig_lt2 (by omega) hx
    · rcases List.mem_cons.1 hv with rfl | hv
      · omega
      · exact lnm_all x itv hx _ l h4 v hv
  | some e, (f, n) :: l, h, v, hv => by
    obtain ⟨h0, h1, h2, h3, h4⟩ := h
    rw [lnm_cons] at hv
    rcases List.mem_cons.1 hv with rfl | hv
    · show f - e - 2 < _; omega
    · rcases List.mem_cons.1 hv with rfl | hv
      · omega
      · exact lnm_all x itv hx _ l h4 v hv
theorem znm_all (x : Nat) (hx : x < 65536) : ∀ (e : Option Nat) (l : List Nat), (∀ v ∈ l, v < 65536) → ∀ v ∈ znm x e l, v < 262144
  | none, [], _, v, hv => by cases hv
  | some _, [], _, v, hv => by cases hv
  | none, a :: l, h, v, hv => by
    have h0 := h a (List.mem_cons_self ..)
    rcases List.mem_cons.1 hv with rfl | hv
    · exact zig_lt2 h0 hx
    · exact znm_all x hx _ l (fun u hu => h u (List.mem_cons_of_mem _ hu)) v hv
  | some e, a :: l, h, v, hv => by
    have h0 := h a (List.mem_cons_self ..)
    rcases List.mem_cons.1 hv with rfl | hv
    · show a - e - 1 < _; omega
    · exact znm_all x hx _ l (fun u hu => h u (List.mem_cons_of_mem _ hu)) v hv
theorem apart_len2 {itv : Nat} (h2 : 2 ≤ itv) : ∀ (e : Option Nat) (l : List (Nat × Nat)), Apart itv e l → 2 * l.length ≤ sum (l.map (·.2))
  | _, [], _ => Nat.zero_le _
  | none, (f, n) :: r, h => by
    have := apart_len2 h2 _ r h.2.2.2
    have h2 := h.1
    show 2 * (r.length + 1) ≤ n + sum (r.map (·.2))
    omega
  | some e, (f, n) :: r, h => by
    have := apart_len2 h2 _ r h.2.2.2.2
    have h2 := h.2.1
    show 2 * (r.length + 1) ≤ n + sum (r.map (·.2))
    omega
def NumOk (q : Cd × Nat) : Prop := q.1.ok ∧ q.2 < 262144 ∧ (q.1 = .una → q.2 ≤ 16)
theorem NumOk.most {q : Cd × Nat} (h : NumOk q) : q.2 ≤ q.1.most := by
  obtain ⟨c, v⟩ := q
  obtain ⟨h1, h2, h3⟩ := h
  cases c with
  | una => have := h3 rfl; show v ≤ 65535; omega
  | gam => show v ≤ 281474976710654; simp only at h2; omega
  | zet k => show v ≤ 281474976710654; simp only at h2; omega
theorem nums_ok {x : Nat} {succ ref : List Nat} {r : Nat} {p : Pr} (h : MayN x succ ref r p) : (∀ q ∈ nums x succ ref r p, NumOk q) ∧ (nums x succ ref r p).length ≤ 131076 := by
  obtain ⟨⟨hp1, hp2, hp3⟩, hx, hsu, hre, hr1, hr2⟩ := h
  have hsl := hsu.len
  have hrl := hre.len
  have RO := runs_ok succ ref
  have hL : Ris (leftOf succ ref) := ⟨hsu.1.sublist List.filter_sublist, fun v hv => hsu.2 v (List.mem_filter.1 hv).1⟩
  have RW := rws_ok p.itv _ hL
  have hll := hL.len
  have hpl := RW.perm.length_eq
  rw [List.length_append, sumLen] at hpl
  have hlens : 2 * (rws p.itv (leftOf succ ref)).1.length + (rws p.itv (leftOf succ ref)).2.length ≤ 65536 := by
    rcases hp2 with h0 | h0
    · rw [h0, rws_zero]; simp; omega
    · have := apart_len2 h0.1 _ _ RW.apart
      omega
  have gok : ∀ v, v < 262144 → NumOk (.gam, v) := fun v hv => ⟨trivial, hv, fun h => by cases h⟩
  unfold nums hdN tlN runN restN
  constructor
  · intro q hq
    rcases List.mem_append.1 hq with hq | hq
    · rcases List.mem_cons.1 hq with rfl | hq
      · exact gok _ (by omega)
      · split at hq
        · cases hq
        · split at hq
          · rcases List.mem_cons.1 hq with rfl | hq
            · exact ⟨trivial, by show r < _; omega, fun _ => by show r ≤ 16; omega⟩
            · cases hq
          · cases hq
    · split at hq
      · cases hq
      · rcases List.mem_append.1 hq with hq | hq
        · split at hq
          · rcases List.mem_cons.1 hq with rfl | hq
            · exact gok _ (by have := RO.len; omega)
            · obtain ⟨v, hv, rfl⟩ := List.mem_map.1 hq
              refine gok _ (rnm_all 0 _ (fun n hn => ?_) v hv)
              obtain ⟨i, hi, rfl⟩ := List.mem_iff_getElem.1 hn
              have := sum_get (runs succ ref).1 i hi
              have := RO.all
              omega
          · cases hq
        · split at hq
          · cases hq
          · rcases List.mem_append.1 hq with hq | hq
            · rcases List.mem_append.1 hq with hq | hq
              · split at hq
                · rcases List.mem_cons.1 hq with rfl | hq
                  · exact gok _ (by omega)
                  · cases hq
                · cases hq
              · obtain ⟨v, hv, rfl⟩ := List.mem_map.1 hq
                exact gok _ (lnm_all x p.itv hx none _ RW.apart v hv)
            · obtain ⟨v, hv, rfl⟩ := List.mem_map.1 hq
              exact ⟨hp3, znm_all x hx none _ (fun u hu => hL.2 u (RW.sub.subset hu)) v hv, fun h => by cases h⟩
  · have hrn := RO.len
    rw [List.length_append, List.length_cons]
    have e1 : (if succ = [] then ([] : List (Cd × Nat)) else if 0 < p.win then [(Cd.una, r)] else []).length ≤ 1 := by
      split
      · simp
      · split <;> simp
    have e2 : (if succ = [] then ([] : List (Cd × Nat)) else (if 0 < r then (Cd.gam, (runs succ ref).1.length) :: (rnm 0 (runs succ ref).1).map (fun v => (Cd.gam, v)) else []) ++ (if leftOf succ ref = [] then [] else (if 0 < p.itv then [(Cd.gam, (rws p.itv (leftOf succ ref)).1.length)] else []) ++ (lnm x p.itv none (rws p.itv (leftOf succ ref)).1).map (fun v => (Cd.gam, v)) ++ (znm x none (rws p.itv (leftOf succ ref)).2).map (fun v => (Cd.zet p.zet, v)))).length ≤ 131074 := by
      split
      · simp
      · rw [List.length_append]
        have e3 : (if 0 < r then (Cd.gam, (runs succ ref).1.length) :: (rnm 0 (runs succ ref).1).map (fun v => (Cd.gam, v)) else ([] : List (Cd × Nat))).length ≤ 65537 := by
          split
          · rw [List.length_cons, List.length_map, rnm_length]; omega
          · simp
        have e4 : (if leftOf succ ref = [] then ([] : List (Cd × Nat)) else (if 0 < p.itv then [(Cd.gam, (rws p.itv (leftOf succ ref)).1.length)] else []) ++ (lnm x p.itv none (rws p.itv (leftOf succ ref)).1).map (fun v => (Cd.gam, v)) ++ (znm x none (rws p.itv (leftOf succ ref)).2).map (fun v => (Cd.zet p.zet, v))).length ≤ 65537 := by
          split
          · simp
          · rw [List.length_append, List.length_append, List.length_map, List.length_map, lnm_length, znm_length]
            have e5 : (if 0 < p.itv then [(Cd.gam, (rws p.itv (leftOf succ ref)).1.length)] else ([] : List (Cd × Nat))).length ≤ 1 := by split <;> simp
            omega
        omega
    omega
theorem bits_len_le : ∀ (l : List (Cd × Nat)), (∀ q ∈ l, NumOk q) → (bitsOf l).length ≤ 40 * l.length
  | [], _ => Nat.le_refl _
  | (c, v) :: l, h => by
    have h0 := h _ (List.mem_cons_self ..)
    have := cb_le c h0.1 v h0.2.1 h0.2.2
    have h1 := bits_len_le l (fun q hq => h q (List.mem_cons_of_mem _ hq))
    rw [bitsOf_cons, List.length_append, List.length_cons]
    omega
/-- a list's bits are few -/
theorem lay_len {x : Nat} {succ ref : List Nat} {r : Nat} {p : Pr} (h : MayN x succ ref r p) : (lay x succ ref r p).length ≤ 5243040 := by
  obtain ⟨h1, h2⟩ := nums_ok h
  have := bits_len_le _ h1
  unfold lay
  omega
theorem bitsOf_take (l : List (Cd × Nat)) (i : Nat) (h : i < l.length) : bitsOf (l.take (i + 1)) = bitsOf (l.take i) ++ cb l[i].1 l[i].2 := by
  rw [List.take_succ_eq_append_getElem h, bitsOf_append]
  show _ ++ (cb l[i].1 l[i].2 ++ []) = _
  rw [List.append_nil]
theorem bits_take_le (l : List (Cd × Nat)) (i : Nat) : (bitsOf (l.take i)).length ≤ (bitsOf l).length := by
  have h : l = l.take i ++ l.drop i := (List.take_append_drop i l).symm
  have e : bitsOf l = bitsOf (l.take i) ++ bitsOf (l.drop i) := by rw [← bitsOf_append, ← h]
  rw [e, List.length_append]
  omega
/-- the row of numbers, as it lies -/
theorem nmV_get : ∀ (L : List (Cd × Nat)) (i : Nat) (h : i < L.length), ∃ kd kk, cdV L[i].1 = .agg #[.int .u8 kd, .int .u64 kk] ∧ (nmV L)[i * 3]? = some (.int .u8 kd) ∧ (nmV L)[i * 3 + 1]? = some (.int .u64 kk) ∧ (nmV L)[i * 3 + 2]? = some (.int .u64 (L[i].2 : Int))
  | (c, v) :: L, 0, _ => by
    obtain ⟨kd, kk, h1, h2⟩ := cdC_shape c
    refine ⟨kd, kk, h2, ?_, ?_, ?_⟩ <;> · show (cdC c ++ [Value.int .u64 (v : Int)] ++ nmV L)[_]? = _; rw [h1]; rfl
  | (c, v) :: L, i + 1, h => by
    obtain ⟨kd, kk, h1, h2, h3, h4⟩ := nmV_get L i (by simpa using h)
    obtain ⟨kd', kk', e1, _⟩ := cdC_shape c
    have e : nmV ((c, v) :: L) = .int .u8 kd' :: .int .u64 kk' :: .int .u64 (v : Int) :: nmV L := by show cdC c ++ [Value.int .u64 (v : Int)] ++ nmV L = _; rw [e1]; rfl
    refine ⟨kd, kk, by simpa using h1, ?_, ?_, ?_⟩
    · rw [e, show (i + 1) * 3 = i * 3 + 1 + 1 + 1 by omega, List.getElem?_cons_succ, List.getElem?_cons_succ, List.getElem?_cons_succ]; exact h2
    · rw [e, show (i + 1) * 3 + 1 = i * 3 + 1 + 1 + 1 + 1 by omega, List.getElem?_cons_succ, List.getElem?_cons_succ, List.getElem?_cons_succ]; exact h3
    · rw [e, show (i + 1) * 3 + 2 = i * 3 + 2 + 1 + 1 + 1 by omega, List.getElem?_cons_succ, List.getElem?_cons_succ, List.getElem?_cons_succ]; simpa using h4
theorem NumsP.lies {w w' : World} {L : List (Cd × Nat)} {e : Ending} (h : NumsP w L e w') (h0 : L ≠ []) :
    ∃ (g cap : Nat) (cur : Array Value), e = .returned (.slice (some ⟨g, 0, none⟩) L.length cap) ∧ w.heap.size ≤ g ∧ w'.heap[g]? = some (.cells cur 87 (0, 0)) ∧ Below w.heap.size w w' ∧
      ∀ W : World, W.heap[g]? = some (.cells cur 87 (0, 0)) → ∀ i (hi : i < L.length), ∃ kd kk, cdV L[i].1 = .agg #[.int .u8 kd, .int .u64 kk] ∧ W.cell? ⟨g, i * 3, none⟩ = some (.int .u8 kd) ∧ W.cell? ⟨g, i * 3 + 1, none⟩ = some (.int .u64 kk) ∧ W.cell? ⟨g, i * 3 + 2, none⟩ = some (.int .u64 (L[i].2 : Int)) := by
  obtain ⟨v, rfl, ho, hb⟩ := h
  rcases ho.2 with ⟨_, h2⟩ | ⟨g, cap, cur, rfl, hbg, hcell, hn, hcm, hcs, htake⟩
  · exact absurd (List.eq_nil_of_length_eq_zero h2) h0
  · refine ⟨g, cap, cur, rfl, hbg, hcell, hb, fun W hW i hi => ?_⟩
    obtain ⟨kd, kk, e1, e2, e3, e4⟩ := nmV_get L i hi
    rw [← htake] at e2 e3 e4
    rw [List.getElem?_take_of_lt (by omega)] at e2 e3 e4
    refine ⟨kd, kk, e1, ?_, ?_, ?_⟩
    · rw [cell_of_row _ _ _ _ _ _ hW, ← Array.getElem?_toList]; exact e2
    · rw [cell_of_row _ _ _ _ _ _ hW, ← Array.getElem?_toList]; exact e3
    · rw [cell_of_row _ _ _ _ _ _ hW, ← Array.getElem?_toList]; exact e4
theorem nums_ne (x : Nat) (succ ref : List Nat) (r : Nat) (p : Pr) : nums x succ ref r p ≠ [] := by unfold nums hdN; simp
end Go.Proofs.YtflnpcgnenhogaaDoor.ls
