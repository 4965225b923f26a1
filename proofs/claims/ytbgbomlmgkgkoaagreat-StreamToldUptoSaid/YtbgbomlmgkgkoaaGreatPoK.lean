/- pool: the keys of the map of pages, sorted; Flush. -/
import Derived.Test.YtbgbomlmgkgkoaaGreatPoH
import Derived.Test.YtbgbomlmgkgkoaaGreatIter
namespace Go.Proofs.YtbgbomlmgkgkoaaGreat.arcI
open Go.RowKit Go.Shelf Go.Maps Go.Sort Go.Proofs.YtbgbomlmgkgkoaaGreat.own Go.Proofs.YtbgbomlmgkgkoaaGreat.dv Go.Proofs.YtbgbomlmgkgkoaaGreat.po

theorem mem_keysI {H : Type} {es : List (Lit × DataW H)} (hk : ∀ p ∈ es, ∃ x, p.1 = .int .i64 x) (x : Int) : x ∈ intKeys (.map es) ↔ has (.map es) (.int .i64 x) = true := by
  rw [has_eq, List.any_eq_true]
  unfold intKeys
  rw [List.mem_map]
  constructor
  · rintro ⟨p, hp', rfl⟩
    obtain ⟨a, ha⟩ := hk p hp'
    refine ⟨p, hp', ?_⟩
    rw [ha]
    show Lit.sameKey (.int .i64 a) (.int .i64 a) = true
    simp [Lit.sameKey]
  · rintro ⟨p, hp', hs⟩
    obtain ⟨a, ha⟩ := hk p hp'
    rw [ha] at hs
    refine ⟨p, hp', ?_⟩
    rw [ha]
    show a = x
    simpa [Lit.sameKey] using hs
theorem VM.keys {w : World} {b N n : Nat} {f : Int → Option Value} (h : VM w b N f n) :
    ∃ D : DataW Value, w.ownsMap Tryz.prog 3 anyElem b N D ∧ Maps.size D = n ∧ (intKeys D).Nodup ∧ ∀ x, x ∈ intKeys D ↔ (KOK x ∧ (f x).isSome = true) := by
  obtain ⟨D, hown, h1, h2, h3⟩ := h
  refine ⟨D, hown, h3, ?_, fun x => ?_⟩
  · obtain ⟨es, rfl, hpw, _⟩ := hown.entries (int_keyed Tryz.underlying3)
    obtain ⟨es', hD', hko⟩ := hown.keysOf
    obtain rfl : es = es' := by simpa using hD'
    unfold intKeys
    refine List.pairwise_map.2 (hpw.imp_of_mem fun {p q} hp' hq' hne e => hne ?_)
    obtain ⟨v, hv⟩ := hko p hp'
    obtain ⟨v', hv'⟩ := hko q hq'
    obtain ⟨a, _, ha, _⟩ := Maps.keyOf_i64 Tryz.underlying3 hv
    obtain ⟨b, _, hb, _⟩ := Maps.keyOf_i64 Tryz.underlying3 hv'
    rw [ha, hb] at e ⊢
    exact congrArg _ e
  · have hwf := intKeys_wf hown Tryz.underlying3
    obtain ⟨es, rfl, hko⟩ := hown.keysOf
    have hm := mem_keysI (es := es) (fun p hp => by obtain ⟨v, hv⟩ := hko p hp; obtain ⟨a, _, ha, _⟩ := Maps.keyOf_i64 Tryz.underlying3 hv; exact ⟨a, ha⟩) x
    constructor
    · intro hx
      have hk : KOK x := hwf x hx
      exact ⟨hk, by rw [← h1 x hk]; exact hm.1 hx⟩
    · rintro ⟨hk, hs⟩
      exact hm.2 (by rw [h1 x hk]; exact hs)

/-- maps.Keys -/
theorem keys_call (w : World) (pm : Nat) : Calls Tryz.prog 42 #[.map (some pm)] w fun e w' => e = .returned (.func (.func 90) #[] #[.pointer (some ⟨w.heap.size, 0, none⟩)]) ∧ w' = w.alloc (.cells #[.map (some pm)] 112) :=
  callsIn_wide.1 (AnyZI.keys_in Tryz.keys42 Fence.wide 5 trivial rfl (some pm) w)
set_option maxHeartbeats 1000000 in
/-- slices.Sorted of it -/
theorem sorted_call {w : World} {pm N n : Nat} {f : Int → Option Value} (h : VM w pm N f n) (hn : n ≤ 4096) :
    Calls Tryz.prog 41 #[.func (.func 90) #[] #[.pointer (some ⟨w.heap.size, 0, none⟩)]] (w.alloc (.cells #[.map (some pm)] 112)) fun e w' =>
      ∃ (v : Value) (ks : List Int), e = .returned v ∧ ks.length = n ∧ ks.Nodup ∧ (∀ x, x ∈ ks ↔ (KOK x ∧ (f x).isSome = true)) ∧ w'.ownsRow (w.heap.size + 1) 3 1 v ks.length (ks.map fun k => Value.int .i64 k) ∧ Below (w.heap.size + 1) (w.alloc (.cells #[.map (some pm)] 112)) w' := by
  obtain ⟨D, hown, hsz, hnd, hmem⟩ := VM.keys h
  have hbl := hown.lt
  have hseq : SeqGives Fence.wide 2 Tryz.prog 90 #[.pointer (some ⟨w.heap.size, 0, none⟩)] encZ (fun ss => ss.Perm (intKeys D)) (Maps.size D) (w.alloc (.cells #[.map (some pm)] 112)) :=
    AnyZI.keys_gives (ρ := Tryz.keys42_ren) { Tryz.keys42 with } Fence.wide _ trivial rfl (by omega) w.heap.size pm N D _ (by simp) (by simp) (by
      obtain ⟨es, clock, hb, Ft, hs, hD⟩ := hown
      exact ⟨es, clock, (Below.heap_alloc _ _ pm hbl).trans hb, Ft, hs, hD⟩)
  have cS := AnyZI.sorted_in Tryz.sorted41 Fence.wide 5 trivial trivial trivial trivial rfl (by omega) (Tryz.sorts41 _) (enters_of Tryz.func89 (by kernel_rfl) rfl) 90 #[.pointer (some ⟨w.heap.size, 0, none⟩)] trivial (enters_of Tryz.func90 (by kernel_rfl) rfl) _ _ (by rw [hsz]; simp only [maxLen]; omega) (by rw [hsz]; omega) _ hseq
  change CallsIn _ _ Tryz.prog 41 _ _ _ at cS
  refine (callsIn_wide.1 cS).mono ?_
  rintro e w' ⟨v, ss, rfl, hS, hrow, hnil, hb⟩
  have hp : (ss.mergeSort (fun x y => decide (x ≤ y))).Perm ss := List.mergeSort_perm ss _
  have hp2 := hp.trans hS
  rw [World.size_alloc] at hrow hb
  refine ⟨v, ss.mergeSort (fun x y => decide (x ≤ y)), rfl, ?_, hp2.nodup_iff.2 hnd, fun x => (hp2.mem_iff).trans (hmem x), ?_, hb⟩
  · rw [hp2.length_eq, ← hsz]
    obtain ⟨es, rfl, _⟩ := hown.keysOf
    show (es.map _).length = _
    rw [List.length_map]; rfl
  · rw [hp.length_eq]; exact hrow

end Go.Proofs.YtbgbomlmgkgkoaaGreat.arcI
