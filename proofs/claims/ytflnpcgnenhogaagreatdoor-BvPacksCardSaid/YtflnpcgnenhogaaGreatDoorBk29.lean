/- Own lemmas, laid together. -/
import Derived.Test.YtflnpcgnenhogaaGreatDoorBk27
import Derived.Test.YtflnpcgnenhogaaGreatDoorBk22
import Derived.Test.YtflnpcgnenhogaaGreatDoorBk28
import Derived.Test.YtflnpcgnenhogaaGreatDoorBk13
import Derived.Test.YtflnpcgnenhogaaGreatDoorBk26
namespace Go.Proofs.YtflnpcgnenhogaaGreatDoor.ls
open Go.RowKit Go.Proofs.YtflnpcgnenhogaaGreatDoor.own Go.Proofs.YtflnpcgnenhogaaGreatDoor.bit

/-- Add's refusal -/
def AddN (W : World) (ec : Int) (e : Ending) (w' : World) : Prop := e = .returned (.tuple #[.int .i64 0, .int .i64 0, .int .i64 ec]) ∧ Below W.heap.size W w'
set_option maxRecDepth 100000 in
set_option maxHeartbeats 12800000 in
theorem add_over {w W : World} {b : Bp} {T : List Tk} {wb E D : Nat} {l : Bits} {rd : Option (Nat × ByteArray × Nat)} {kb : Nat} {ls ks : List (Nat × Obj)} {a : Option Addr} {succ : List Nat} {cap : Nat}
  (h : KS w b T wb E D l rd kb ls ks W) (hG : GL w) (hb : b.p.ok) (hx : T.length < 65536) (hs : Ris succ) (hc : succ.length ≤ cap) (hA : Seen w ks a succ) (hE : E ≤ 1048576) (ho : 1048576 < E + succ.length) :
  Calls Tryz.prog 37 #[.pointer (some ⟨kb, 0, none⟩), .slice a succ.length cap] W (AddN W 14) := by
 obtain ⟨row, hF, hne, hR⟩ := h
 have hs9 := hs.len
 have HF := Lib.hid hF
 have HNE := Lib.hid hne
 have HR := Lib.hid hR
 have HS := Lib.hid hs
 have HAS := Lib.hid hA
 obtain ⟨n, hn⟩ : ∃ n, succ.length = n := ⟨_, rfl⟩
 have HN := Lib.hid hn
 obtain ⟨nt, hnt⟩ : ∃ n, T.length = n := ⟨_, rfl⟩
 have HNT := Lib.hid hnt
 rw [hn] at hc ho hs9 ⊢
 rw [hnt] at hx
 have RK : Hid (∀ W' : World, W'.heap[kb]? = some (.cells row 129 (0, 0)) → W'.cell? ⟨kb, 39, none⟩ = some (.int .i64 (nt : Int)) ∧ W'.cell? ⟨kb, 41, none⟩ = some (.int .i64 (E : Int)) ∧ W'.cell? ⟨kb, 40, none⟩ = some (.pointer (some ⟨wb, 0, none⟩)) ∧
   W'.cell? ⟨kb, 0, none⟩ = some (.int .i64 (b.p.win : Int)) ∧ W'.cell? ⟨kb, 1, none⟩ = some (.int .i64 (b.depth : Int)) ∧ W'.cell? ⟨kb, 2, none⟩ = some (.int .i64 (b.p.itv : Int)) ∧ W'.cell? ⟨kb, 3, none⟩ = some (.int .i64 (b.p.zet : Int)) ∧ W'.cell? ⟨kb, 4, none⟩ = some (.int .i64 (b.cap : Int))) := Lib.hid (fun W' hW => by
  have e := fun j => cell_of_row W' kb j row 129 (0, 0) hW
  exact ⟨by rw [e, ← hnt]; exact hR.ring.2.1, by rw [e]; exact hR.e, by rw [e]; exact hR.w, by rw [e]; exact hR.p0, by rw [e]; exact hR.p1, by rw [e]; exact hR.p2, by rw [e]; exact hR.p3, by rw [e]; exact hR.p4⟩)
 clear hF hne hR hn hnt hs hA
 go_enter Tryz.func37, Tryz.ntmps37
 go_upto_region 1 with fail
 generalize hW : World.alloc (World.alloc (World.alloc W _) _) _ = W1
 obtain ⟨r1, r2, r3, k1⟩ := rows3 hW
 obtain ⟨K1, hK1⟩ : ∃ K, [(W.heap.size + 1 + 1, Obj.cells #[.int .i64 0] 3 (0, 0)), (W.heap.size + 1, Obj.cells #[.slice a n cap] 34 (0, 0)), (W.heap.size, Obj.cells #[.pointer (some ⟨kb, 0, none⟩)] 79 (0, 0))] ++ ((kb, .cells row 129 (0, 0)) :: (ls ++ ks)) = K := ⟨_, rfl⟩
 have F1 : Hid (FS w (some (wb, l)) rd K1 W1) := Lib.hid (by
  rw [← hK1]
  refine HF.out.more k1 (fun p hp => ?_)
  simp only [List.mem_cons, List.not_mem_nil, or_false] at hp
  rcases hp with rfl | rfl | rfl
  ·exact ⟨Nat.le_add_right _ 2, r3⟩
  ·exact ⟨Nat.le_add_right _ 1, r2⟩
  ·exact ⟨Nat.le_refl _, r1⟩)
 have c1 : W1.cell? ⟨W.heap.size, 0, none⟩ = some (.pointer (some ⟨kb, 0, none⟩)) := by rw [cell_of_row _ _ _ _ _ _ r1]; rfl
 obtain ⟨d1, d2, d3, p0, p1, p2, p3, p4⟩ := RK.out W1 ((k1.block _ (lt_of_block (HF.out.row (List.mem_cons_self ..)))).trans (HF.out.row (List.mem_cons_self ..)))
 have i1 : decide ((65536 : Int) ≤ (nt : Int)) = false := decide_eq_false (by omega)
 have KW1 := Lib.hid k1
 clear hW r1 r2 r3 k1
 go_wp2_with fail
 have F2 := Lib.hid (F1.out.add #[.int .i64 (nt : Int)] 3)
 obtain ⟨bx, hbx⟩ : ∃ z, W1.heap.size = z := ⟨_, rfl⟩
 rw [hbx] at F2 ⊢
 obtain ⟨K2, hK2⟩ : ∃ K, (bx, Obj.cells #[.int .i64 (nt : Int)] 3 (0, 0)) :: K1 = K := ⟨_, rfl⟩
 rw [hK2] at F2
 have kw2 : Below W.heap.size W (W1.alloc (.cells #[.int .i64 (nt : Int)] 3)) := KW1.out.alloc KW1.out.size _
 generalize World.alloc W1 _ = W2 at F2 kw2 ⊢
 have KW := Lib.hid kw2
 clear kw2 KW1
 have mK : Hid ((kb, Obj.cells row 129 (0, 0)) ∈ K2) := Lib.hid (by rw [← hK2, ← hK1]; simp)
 have mk : Hid ((W.heap.size, Obj.cells #[.pointer (some ⟨kb, 0, none⟩)] 79 (0, 0)) ∈ K2) := Lib.hid (by rw [← hK2, ← hK1]; simp)
 have ms : Hid ((W.heap.size + 1, Obj.cells #[.slice a n cap] 34 (0, 0)) ∈ K2) := Lib.hid (by rw [← hK2, ← hK1]; simp)
 have mr : Hid ((W.heap.size + 1 + 1, Obj.cells #[.int .i64 0] 3 (0, 0)) ∈ K2) := Lib.hid (by rw [← hK2, ← hK1]; simp)
 have mx : Hid ((bx, Obj.cells #[.int .i64 (nt : Int)] 3 (0, 0)) ∈ K2) := Lib.hid (by rw [← hK2]; simp)
 have ml : Hid (∀ p ∈ ls, p ∈ K2) := Lib.hid (fun p hp => by rw [← hK2, ← hK1]; simp [hp])
 have mks : Hid (∀ p ∈ ks, p ∈ K2) := Lib.hid (fun p hp => by rw [← hK2, ← hK1]; simp [hp])
 have HLT : Hid (∀ q ∈ (kb, Obj.cells row 129 (0, 0)) :: (ls ++ ks), q.1 < W.heap.size) := Lib.hid (fun q hq => lt_of_block (HF.out.row (b := q.1) (o := q.2) hq))
 have HBX : Hid (W.heap.size + 1 + 1 < bx) := Lib.hid (by
  rw [← hbx]
  exact lt_of_block (F1.out.row (b := W.heap.size + 1 + 1) (o := Obj.cells #[.int .i64 0] 3 (0, 0)) (by rw [← hK1]; simp)))
 obtain ⟨bk, hbk⟩ : ∃ z, W.heap.size = z := ⟨_, rfl⟩
 have HBK := Lib.hid hbk
 rw [hbk] at mk ms mr HLT HBX ⊢
 obtain ⟨bs, hbs⟩ : ∃ z, bk + 1 = z := ⟨_, rfl⟩
 obtain ⟨br, hbr⟩ : ∃ z, bs + 1 = z := ⟨_, rfl⟩
 have HB : Hid (bk + 1 = bs ∧ bs + 1 = br) := Lib.hid ⟨hbs, hbr⟩
 rw [hbs] at ms mr HBX ⊢
 rw [hbr] at mr HBX ⊢
 clear hbx hK2 hK1 hbk hbs hbr c1 d1 d2 d3 p0 p1 p2 p3 p4 F1
 have CK : Hid (∀ W', Below W2.heap.size W2 W' → W'.cell? ⟨bx, 0, none⟩ = some (.int .i64 (nt : Int)) ∧ W'.cell? ⟨bs, 0, none⟩ = some (.slice a n cap) ∧ W'.cell? ⟨bk, 0, none⟩ = some (.pointer (some ⟨kb, 0, none⟩)) ∧ W'.cell? ⟨kb, 0, none⟩ = some (.int .i64 (b.p.win : Int)) ∧ W'.cell? ⟨kb, 1, none⟩ = some (.int .i64 (b.depth : Int)) ∧ W'.cell? ⟨kb, 2, none⟩ = some (.int .i64 (b.p.itv : Int)) ∧ W'.cell? ⟨kb, 3, none⟩ = some (.int .i64 (b.p.zet : Int)) ∧ W'.cell? ⟨kb, 4, none⟩ = some (.int .i64 (b.cap : Int)) ∧ Below W2.heap.size W2 W') := Lib.hid (fun W' k => by
  have hr : ∀ q : Nat × Obj, q ∈ K2 → W'.heap[q.1]? = some q.2 := fun q hq => (k.block _ (lt_of_block (F2.out.row (b := q.1) (o := q.2) hq))).trans (F2.out.row (b := q.1) (o := q.2) hq)
  obtain ⟨e1, e2, e3, e4, e5, e6, e7, e8⟩ := RK.out W' (hr _ mK.out)
  exact ⟨by rw [cell_of_row _ _ _ _ _ _ (hr _ mx.out)]; rfl, by rw [cell_of_row _ _ _ _ _ _ (hr _ ms.out)]; rfl, by rw [cell_of_row _ _ _ _ _ _ (hr _ mk.out)]; rfl, e4, e5, e6, e7, e8, k⟩)
 have LVS : Hid (∀ W', Below W2.heap.size W2 W' → LV W' a succ) := Lib.hid (fun W' k => HAS.out W' (F2.out.below.trans (k.mono F2.out.below.size)) (fun q hq => (k.block _ (lt_of_block (F2.out.row (b := q.1) (o := q.2) (mks.out q hq)))).trans (F2.out.row (b := q.1) (o := q.2) (mks.out q hq))))
 obtain ⟨n0, hn0⟩ : ∃ z, (lay T.length succ [] 0 b.p).length = z := ⟨_, rfl⟩
 have HN0 := Lib.hid hn0
 have BI : Hid (∀ W', Below W2.heap.size W2 W' → Calls Tryz.prog 66 #[.int .i64 (nt : Int), .slice a n cap, .slice none 0 0, .int .i64 0, .agg #[.int .i64 (b.p.win : Int), .int .i64 (b.p.itv : Int), .int .i64 (b.p.zet : Int)]] W' fun e w' => e = .returned (.tuple #[.int .i64 (n0 : Int), .int .i64 0]) ∧ Below W'.heap.size W' w') := Lib.hid (fun W' k => by
  have h1 := lbits_yes b.p T.length W' (hG.below (F2.out.below.trans (k.mono F2.out.below.size))) a succ cap none [] 0 0 (by rw [HN.out]; exact hc) (Nat.le_refl _) (plain_may hb (by rw [HNT.out]; exact hx) HS.out) (LVS.out W' k) LV.nil
  rw [HN.out, hn0, HNT.out] at h1
  exact h1)
 have BL := Lib.hid (fun W' => blist_any (b.p.win : Int) (b.depth : Int) (b.p.itv : Int) (b.p.zet : Int) (b.cap : Int) W')
 unfold bpV parV at BL
 have KX : Hid (∀ W' W'', Below W2.heap.size W2 W' → Below W'.heap.size W' W'' → Below W2.heap.size W2 W'') := Lib.hid (fun W' W'' h k => h.trans (k.mono h.size))
 have KB : Hid (∀ W' o, Below W2.heap.size W2 W' → Below W2.heap.size W2 (W'.alloc o)) := Lib.hid (fun W' o k => k.alloc k.size _)
 have KS1 : Hid (∀ W' g u1, W2.heap.size ≤ g → Below W2.heap.size W2 W' → Below W2.heap.size W2 (W'.setCell ⟨g, 0, none⟩ u1)) := Lib.hid (fun W' g u1 h k => k.setCell h _)
 have FN : Hid (∀ W' g, W2.heap.size ≤ g → Below W2.heap.size W2 W' → W'.heap[g]? = some (.cells #[.int .i64 (n0 : Int)] 3 (0, 0)) → FS w (some (wb, l)) rd ((g, .cells #[.int .i64 (n0 : Int)] 3 (0, 0)) :: K2) W' ∧ W2.heap.size ≤ g ∧ Below W2.heap.size W2 W') := Lib.hid (fun W' g h k hr => ⟨F2.out.more (js := [(g, .cells #[.int .i64 (n0 : Int)] 3 (0, 0))]) k (fun p hp => by rw [List.mem_singleton.1 hp]; exact ⟨h, hr⟩), h, k⟩)
 have NR : Hid (∀ (W' : World) (g : Nat), W'.heap[g]? = some (.cells #[.int .i64 0] 3 (0, 0)) → W'.cell? ⟨g, 0, none⟩ = some (.int .i64 0) ∧ W'.frozen? ⟨g, 0, none⟩ = false) := Lib.hid (fun W' g h => ⟨by rw [cell_of_row _ _ _ _ _ _ h]; rfl, frozen_of_row W' g 0 _ _ h⟩)
 have NB : Hid (∀ W' : World, (W'.alloc (.cells #[.int .i64 0] 3)).cell? ⟨W'.heap.size, 0, none⟩ = some (.int .i64 0) ∧ (W'.alloc (.cells #[.int .i64 0] 3)).frozen? ⟨W'.heap.size, 0, none⟩ = false) := Lib.hid (fun W' => NR.out _ _ (heap_alloc_new W' _))
 obtain ⟨c1, c2, c3, p0, p1, p2, p3, p4, -⟩ := CK.out W2 (Below.refl _ _)
 clear hn0 i1
 go_cut [6, 8] from 29 to 39 (fun v6 v8 wc => ∃ bl, v6 = .int .i64 0 ∧ v8 = .pointer (some ⟨bl, 0, none⟩) ∧ FS w (some (wb, l)) rd ((bl, .cells #[.int .i64 (n0 : Int)] 3 (0, 0)) :: K2) wc ∧ W2.heap.size ≤ bl ∧ Below W2.heap.size W2 wc)
 case first =>
  have K0 := Below.refl W2.heap.size W2
  go_region_held3 (fun W' => W'.cell? ⟨bx, 0, none⟩ = some (.int .i64 (nt : Int)) ∧ W'.cell? ⟨bs, 0, none⟩ = some (.slice a n cap) ∧ W'.cell? ⟨bk, 0, none⟩ = some (.pointer (some ⟨kb, 0, none⟩)) ∧ W'.cell? ⟨kb, 0, none⟩ = some (.int .i64 (b.p.win : Int)) ∧ W'.cell? ⟨kb, 1, none⟩ = some (.int .i64 (b.depth : Int)) ∧ W'.cell? ⟨kb, 2, none⟩ = some (.int .i64 (b.p.itv : Int)) ∧ W'.cell? ⟨kb, 3, none⟩ = some (.int .i64 (b.p.zet : Int)) ∧ W'.cell? ⟨kb, 4, none⟩ = some (.int .i64 (b.cap : Int)) ∧ Below W2.heap.size W2 W')
   (first
    | exact CK.out _ (by assumption)
    | exact CK.out _ (Below.drew (by assumption))
    | exact CK.out _ (KB.out _ _ (by assumption))
    | exact CK.out _ (Below.drew (KB.out _ _ (by assumption)))
    | exact CK.out _ (KS1.out _ _ _ (Nat.le_refl _) k8)
    | exact CK.out _ (KS1.out _ _ _ k6.size k8))
   (first
    | (go_at_call 26; (with_reducible refine (BL.out _).mono ?_); rintro e w5 ⟨rfl, k5⟩; have k6 := (by first | exact KX.out _ _ (by assumption) k5 | exact KX.out _ _ (Below.drew (by assumption)) k5 | exact KX.out _ _ (Below.drew (KB.out _ _ (by assumption))) k5 | exact KX.out _ _ (KB.out _ _ (by assumption)) k5 : Below W2.heap.size W2 w5); (try (have rA : w5.heap[W2.heap.size]? = some (.cells #[.int .i64 0] 3 (0, 0)) := (k5.block _ (by simp)).trans (heap_alloc_new W2 _))))
    | (go_at_call 66; (with_reducible refine (BI.out _ (by first | exact k6 | exact Below.drew k6 | exact KB.out _ _ k6 | exact Below.drew (KB.out _ _ k6))).mono ?_); rintro e w6 ⟨rfl, k7⟩; have k8 := (by first | exact KX.out _ _ k6 k7 | exact KX.out _ _ (Below.drew k6) k7 | exact KX.out _ _ (KB.out _ _ k6) k7 | exact KX.out _ _ (Below.drew (KB.out _ _ k6)) k7 : Below W2.heap.size W2 w6); have nb := NB.out w6; obtain ⟨nb1, nb2⟩ := nb; (try (have rB : w6.heap[W2.heap.size]? = some (.cells #[.int .i64 0] 3 (0, 0)) := (k7.block _ (lt_of_block rA)).trans rA; obtain ⟨ra1, ra2⟩ := NR.out _ _ rB)); (try (have rC : w6.heap[w5.heap.size]? = some (.cells #[.int .i64 0] 3 (0, 0)) := (k7.block _ (by simp)).trans (heap_alloc_new w5 _); obtain ⟨rc1, rc2⟩ := NR.out _ _ rC))))
  all_goals
   go_wp2_with fail
   refine Met.intro ?_
   apply_assumption
   (repeat apply Exists.intro)
   refine ⟨?_, rfl⟩
   first
    | exact ⟨_, rfl, rfl, FN.out _ _ k8.size (KB.out _ _ k8) (heap_alloc_new w6 _)⟩
    | exact ⟨_, rfl, rfl, FN.out _ _ (Nat.le_refl _) (KS1.out _ _ _ (Nat.le_refl _) k8) (heap_setCell_same w6 _ 0 _ _ _ rB)⟩
    | exact ⟨_, rfl, rfl, FN.out _ _ k6.size (KS1.out _ _ _ k6.size k8) (heap_setCell_same w6 _ 0 _ _ _ rC)⟩
 case rest =>
  obtain ⟨bl, rfl, rfl, hF3, hbl, hk3⟩ := hcut
  have F3 := Lib.hid hF3
  have K3 := Lib.hid (And.intro hbl hk3)
  clear hF3 hbl hk3 BI FN NB NR KS1 c1 c2 c3 p0 p1 p2 p3 p4
  obtain ⟨c1, c2, c3, p0, p1, p2, p3, p4, -⟩ := CK.out wc K3.out.2
  obtain ⟨-, d2, d3, -⟩ := RK.out wc (F3.out.row (List.mem_cons_of_mem _ mK.out))
  have i2 : decide ((1048576 : Int) < (E : Int) + (n : Int)) = true := decide_eq_true (by omega)
  have FIN : Hid (∀ W' v, Below wc.heap.size wc W' → Below W.heap.size W (W'.setCell ⟨br, 0, none⟩ v)) := Lib.hid (fun W' v k => by
   have h1 := KX.out _ _ K3.out.2 k
   have h2 := KW.out
   exact (h2.trans (h1.mono h2.size)).setCell (by have := HB.out; have := HBK.out; show W.heap.size ≤ br; omega) _)
  have hbr := F3.out.row (List.mem_cons_of_mem _ mr.out)
  have z0 : wc.frozen? ⟨br, 0, none⟩ = false := frozen_of_row wc br 0 _ _ hbr
  have q0 : wc.cell? ⟨br, 0, none⟩ = some (.int .i64 0) := by rw [cell_of_row _ _ _ _ _ _ hbr]; rfl
  have r1 : (wc.setCell ⟨br, 0, none⟩ (.int .i64 0)).cell? ⟨br, 0, none⟩ = some (.int .i64 0) := by rw [cell_of_row _ _ _ _ _ _ (heap_setCell_same wc br 0 _ _ _ hbr)]; rfl
  go_upto_region 9 with fail
  go_big_region
  clear hbr
  go_wp2_with fail
  exact bodyPost_ret (v := .tuple #[.int .i64 0, .int .i64 0, .int .i64 14]) (by simp [results, Tryz.results37, go_sem, r1]) rfl ⟨rfl, Below.drew (FIN.out _ _ (Below.refl wc.heap.size wc))⟩
set_option maxRecDepth 100000 in
set_option maxHeartbeats 12800000 in
theorem add_bad {w W : World} {b : Bp} {T : List Tk} {wb E D : Nat} {l : Bits} {rd : Option (Nat × ByteArray × Nat)} {kb : Nat} {ls ks : List (Nat × Obj)} {a : Option Addr} {succ : List Nat} {cap : Nat}
  (h : KS w b T wb E D l rd kb ls ks W) (_hG : GL w) (_hb : b.p.ok) (hx : T.length < 65536) (hs : ¬ Ris succ) (_hc : succ.length ≤ cap) (hA : Seen w ks a succ) (_hE : E ≤ 1048576) (_hlen : succ.length ≤ 35184372088832) :
  Calls Tryz.prog 37 #[.pointer (some ⟨kb, 0, none⟩), .slice a succ.length cap] W (AddN W 1) := by
 obtain ⟨row, hF, hne, hR⟩ := h
 have HF := Lib.hid hF
 have HNE := Lib.hid hne
 have HR := Lib.hid hR
 have HS := Lib.hid hs
 have HAS := Lib.hid hA
 obtain ⟨n, hn⟩ : ∃ n, succ.length = n := ⟨_, rfl⟩
 have HN := Lib.hid hn
 obtain ⟨nt, hnt⟩ : ∃ n, T.length = n := ⟨_, rfl⟩
 have HNT := Lib.hid hnt
 rw [hn]
 rw [hnt] at hx
 have RK : Hid (∀ W' : World, W'.heap[kb]? = some (.cells row 129 (0, 0)) → W'.cell? ⟨kb, 39, none⟩ = some (.int .i64 (nt : Int)) ∧ W'.cell? ⟨kb, 41, none⟩ = some (.int .i64 (E : Int)) ∧ W'.cell? ⟨kb, 40, none⟩ = some (.pointer (some ⟨wb, 0, none⟩)) ∧
   W'.cell? ⟨kb, 0, none⟩ = some (.int .i64 (b.p.win : Int)) ∧ W'.cell? ⟨kb, 1, none⟩ = some (.int .i64 (b.depth : Int)) ∧ W'.cell? ⟨kb, 2, none⟩ = some (.int .i64 (b.p.itv : Int)) ∧ W'.cell? ⟨kb, 3, none⟩ = some (.int .i64 (b.p.zet : Int)) ∧ W'.cell? ⟨kb, 4, none⟩ = some (.int .i64 (b.cap : Int))) := Lib.hid (fun W' hW => by
  have e := fun j => cell_of_row W' kb j row 129 (0, 0) hW
  exact ⟨by rw [e, ← hnt]; exact hR.ring.2.1, by rw [e]; exact hR.e, by rw [e]; exact hR.w, by rw [e]; exact hR.p0, by rw [e]; exact hR.p1, by rw [e]; exact hR.p2, by rw [e]; exact hR.p3, by rw [e]; exact hR.p4⟩)
 clear hF hne hR hn hnt hs hA
 go_enter Tryz.func37, Tryz.ntmps37
 go_upto_region 1 with fail
 generalize hW : World.alloc (World.alloc (World.alloc W _) _) _ = W1
 obtain ⟨r1, r2, r3, k1⟩ := rows3 hW
 obtain ⟨K1, hK1⟩ : ∃ K, [(W.heap.size + 1 + 1, Obj.cells #[.int .i64 0] 3 (0, 0)), (W.heap.size + 1, Obj.cells #[.slice a n cap] 34 (0, 0)), (W.heap.size, Obj.cells #[.pointer (some ⟨kb, 0, none⟩)] 79 (0, 0))] ++ ((kb, .cells row 129 (0, 0)) :: (ls ++ ks)) = K := ⟨_, rfl⟩
 have F1 : Hid (FS w (some (wb, l)) rd K1 W1) := Lib.hid (by
  rw [← hK1]
  refine HF.out.more k1 (fun p hp => ?_)
  simp only [List.mem_cons, List.not_mem_nil, or_false] at hp
  rcases hp with rfl | rfl | rfl
  ·exact ⟨Nat.le_add_right _ 2, r3⟩
  ·exact ⟨Nat.le_add_right _ 1, r2⟩
  ·exact ⟨Nat.le_refl _, r1⟩)
 have c1 : W1.cell? ⟨W.heap.size, 0, none⟩ = some (.pointer (some ⟨kb, 0, none⟩)) := by rw [cell_of_row _ _ _ _ _ _ r1]; rfl
 obtain ⟨d1, d2, d3, p0, p1, p2, p3, p4⟩ := RK.out W1 ((k1.block _ (lt_of_block (HF.out.row (List.mem_cons_self ..)))).trans (HF.out.row (List.mem_cons_self ..)))
 have i1 : decide ((65536 : Int) ≤ (nt : Int)) = false := decide_eq_false (by omega)
 have KW1 := Lib.hid k1
 clear hW r1 r2 r3 k1
 go_wp2_with fail
 have F2 := Lib.hid (F1.out.add #[.int .i64 (nt : Int)] 3)
 obtain ⟨bx, hbx⟩ : ∃ z, W1.heap.size = z := ⟨_, rfl⟩
 rw [hbx] at F2 ⊢
 obtain ⟨K2, hK2⟩ : ∃ K, (bx, Obj.cells #[.int .i64 (nt : Int)] 3 (0, 0)) :: K1 = K := ⟨_, rfl⟩
 rw [hK2] at F2
 have kw2 : Below W.heap.size W (W1.alloc (.cells #[.int .i64 (nt : Int)] 3)) := KW1.out.alloc KW1.out.size _
 generalize World.alloc W1 _ = W2 at F2 kw2 ⊢
 have KW := Lib.hid kw2
 clear kw2 KW1
 have mK : Hid ((kb, Obj.cells row 129 (0, 0)) ∈ K2) := Lib.hid (by rw [← hK2, ← hK1]; simp)
 have mk : Hid ((W.heap.size, Obj.cells #[.pointer (some ⟨kb, 0, none⟩)] 79 (0, 0)) ∈ K2) := Lib.hid (by rw [← hK2, ← hK1]; simp)
 have ms : Hid ((W.heap.size + 1, Obj.cells #[.slice a n cap] 34 (0, 0)) ∈ K2) := Lib.hid (by rw [← hK2, ← hK1]; simp)
 have mr : Hid ((W.heap.size + 1 + 1, Obj.cells #[.int .i64 0] 3 (0, 0)) ∈ K2) := Lib.hid (by rw [← hK2, ← hK1]; simp)
 have mx : Hid ((bx, Obj.cells #[.int .i64 (nt : Int)] 3 (0, 0)) ∈ K2) := Lib.hid (by rw [← hK2]; simp)
 have ml : Hid (∀ p ∈ ls, p ∈ K2) := Lib.hid (fun p hp => by rw [← hK2, ← hK1]; simp [hp])
 have mks : Hid (∀ p ∈ ks, p ∈ K2) := Lib.hid (fun p hp => by rw [← hK2, ← hK1]; simp [hp])
 have HLT : Hid (∀ q ∈ (kb, Obj.cells row 129 (0, 0)) :: (ls ++ ks), q.1 < W.heap.size) := Lib.hid (fun q hq => lt_of_block (HF.out.row (b := q.1) (o := q.2) hq))
 have HBX : Hid (W.heap.size + 1 + 1 < bx) := Lib.hid (by
  rw [← hbx]
  exact lt_of_block (F1.out.row (b := W.heap.size + 1 + 1) (o := Obj.cells #[.int .i64 0] 3 (0, 0)) (by rw [← hK1]; simp)))
 obtain ⟨bk, hbk⟩ : ∃ z, W.heap.size = z := ⟨_, rfl⟩
 have HBK := Lib.hid hbk
 rw [hbk] at mk ms mr HLT HBX ⊢
 obtain ⟨bs, hbs⟩ : ∃ z, bk + 1 = z := ⟨_, rfl⟩
 obtain ⟨br, hbr⟩ : ∃ z, bs + 1 = z := ⟨_, rfl⟩
 have HB : Hid (bk + 1 = bs ∧ bs + 1 = br) := Lib.hid ⟨hbs, hbr⟩
 rw [hbs] at ms mr HBX ⊢
 rw [hbr] at mr HBX ⊢
 clear hbx hK2 hK1 hbk hbs hbr c1 d1 d2 d3 p0 p1 p2 p3 p4 F1
 have CK : Hid (∀ W', Below W2.heap.size W2 W' → W'.cell? ⟨bx, 0, none⟩ = some (.int .i64 (nt : Int)) ∧ W'.cell? ⟨bs, 0, none⟩ = some (.slice a n cap) ∧ W'.cell? ⟨bk, 0, none⟩ = some (.pointer (some ⟨kb, 0, none⟩)) ∧ W'.cell? ⟨kb, 0, none⟩ = some (.int .i64 (b.p.win : Int)) ∧ W'.cell? ⟨kb, 1, none⟩ = some (.int .i64 (b.depth : Int)) ∧ W'.cell? ⟨kb, 2, none⟩ = some (.int .i64 (b.p.itv : Int)) ∧ W'.cell? ⟨kb, 3, none⟩ = some (.int .i64 (b.p.zet : Int)) ∧ W'.cell? ⟨kb, 4, none⟩ = some (.int .i64 (b.cap : Int)) ∧ Below W2.heap.size W2 W') := Lib.hid (fun W' k => by
  have hr : ∀ q : Nat × Obj, q ∈ K2 → W'.heap[q.1]? = some q.2 := fun q hq => (k.block _ (lt_of_block (F2.out.row (b := q.1) (o := q.2) hq))).trans (F2.out.row (b := q.1) (o := q.2) hq)
  obtain ⟨e1, e2, e3, e4, e5, e6, e7, e8⟩ := RK.out W' (hr _ mK.out)
  exact ⟨by rw [cell_of_row _ _ _ _ _ _ (hr _ mx.out)]; rfl, by rw [cell_of_row _ _ _ _ _ _ (hr _ ms.out)]; rfl, by rw [cell_of_row _ _ _ _ _ _ (hr _ mk.out)]; rfl, e4, e5, e6, e7, e8, k⟩)
 have LVS : Hid (∀ W', Below W2.heap.size W2 W' → LV W' a succ) := Lib.hid (fun W' k => HAS.out W' (F2.out.below.trans (k.mono F2.out.below.size)) (fun q hq => (k.block _ (lt_of_block (F2.out.row (b := q.1) (o := q.2) (mks.out q hq)))).trans (F2.out.row (b := q.1) (o := q.2) (mks.out q hq))))
 have BI : Hid (∀ W', Below W2.heap.size W2 W' → Calls Tryz.prog 66 #[.int .i64 (nt : Int), .slice a n cap, .slice none 0 0, .int .i64 0, .agg #[.int .i64 (b.p.win : Int), .int .i64 (b.p.itv : Int), .int .i64 (b.p.zet : Int)]] W' fun e w' => e = .returned (.tuple #[.int .i64 0, .int .i64 1]) ∧ Below W'.heap.size W' w') := Lib.hid (fun W' k => by
  have h1 := lbits_no (b.p.win : Int) (b.p.itv : Int) (b.p.zet : Int) (nt : Int) W' a succ cap none [] 0 0 (fun h => HS.out h.2.2.1) (LVS.out W' k) LV.nil
  rw [HN.out] at h1
  exact h1)
 have BL := Lib.hid (fun W' => blist_any (b.p.win : Int) (b.depth : Int) (b.p.itv : Int) (b.p.zet : Int) (b.cap : Int) W')
 unfold bpV parV at BL
 have KX : Hid (∀ W' W'', Below W2.heap.size W2 W' → Below W'.heap.size W' W'' → Below W2.heap.size W2 W'') := Lib.hid (fun W' W'' h k => h.trans (k.mono h.size))
 have KB : Hid (∀ W' o, Below W2.heap.size W2 W' → Below W2.heap.size W2 (W'.alloc o)) := Lib.hid (fun W' o k => k.alloc k.size _)
 have KS1 : Hid (∀ W' g u1, W2.heap.size ≤ g → Below W2.heap.size W2 W' → Below W2.heap.size W2 (W'.setCell ⟨g, 0, none⟩ u1)) := Lib.hid (fun W' g u1 h k => k.setCell h _)
 have FN : Hid (∀ W' g, W2.heap.size ≤ g → Below W2.heap.size W2 W' → W'.heap[g]? = some (.cells #[.int .i64 0] 3 (0, 0)) → FS w (some (wb, l)) rd ((g, .cells #[.int .i64 0] 3 (0, 0)) :: K2) W' ∧ W2.heap.size ≤ g ∧ Below W2.heap.size W2 W') := Lib.hid (fun W' g h k hr => ⟨F2.out.more (js := [(g, .cells #[.int .i64 0] 3 (0, 0))]) k (fun p hp => by rw [List.mem_singleton.1 hp]; exact ⟨h, hr⟩), h, k⟩)
 have NR : Hid (∀ (W' : World) (g : Nat), W'.heap[g]? = some (.cells #[.int .i64 0] 3 (0, 0)) → W'.cell? ⟨g, 0, none⟩ = some (.int .i64 0) ∧ W'.frozen? ⟨g, 0, none⟩ = false) := Lib.hid (fun W' g h => ⟨by rw [cell_of_row _ _ _ _ _ _ h]; rfl, frozen_of_row W' g 0 _ _ h⟩)
 have NB : Hid (∀ W' : World, (W'.alloc (.cells #[.int .i64 0] 3)).cell? ⟨W'.heap.size, 0, none⟩ = some (.int .i64 0) ∧ (W'.alloc (.cells #[.int .i64 0] 3)).frozen? ⟨W'.heap.size, 0, none⟩ = false) := Lib.hid (fun W' => NR.out _ _ (heap_alloc_new W' _))
 obtain ⟨c1, c2, c3, p0, p1, p2, p3, p4, -⟩ := CK.out W2 (Below.refl _ _)
 clear i1
 go_cut [6, 8] from 29 to 39 (fun v6 v8 wc => ∃ bl, v6 = .int .i64 1 ∧ v8 = .pointer (some ⟨bl, 0, none⟩) ∧ FS w (some (wb, l)) rd ((bl, .cells #[.int .i64 0] 3 (0, 0)) :: K2) wc ∧ W2.heap.size ≤ bl ∧ Below W2.heap.size W2 wc)
 case first =>
  have K0 := Below.refl W2.heap.size W2
  go_region_held3 (fun W' => W'.cell? ⟨bx, 0, none⟩ = some (.int .i64 (nt : Int)) ∧ W'.cell? ⟨bs, 0, none⟩ = some (.slice a n cap) ∧ W'.cell? ⟨bk, 0, none⟩ = some (.pointer (some ⟨kb, 0, none⟩)) ∧ W'.cell? ⟨kb, 0, none⟩ = some (.int .i64 (b.p.win : Int)) ∧ W'.cell? ⟨kb, 1, none⟩ = some (.int .i64 (b.depth : Int)) ∧ W'.cell? ⟨kb, 2, none⟩ = some (.int .i64 (b.p.itv : Int)) ∧ W'.cell? ⟨kb, 3, none⟩ = some (.int .i64 (b.p.zet : Int)) ∧ W'.cell? ⟨kb, 4, none⟩ = some (.int .i64 (b.cap : Int)) ∧ Below W2.heap.size W2 W')
   (first
    | exact CK.out _ (by assumption)
    | exact CK.out _ (Below.drew (by assumption))
    | exact CK.out _ (KB.out _ _ (by assumption))
    | exact CK.out _ (Below.drew (KB.out _ _ (by assumption)))
    | exact CK.out _ (KS1.out _ _ _ (Nat.le_refl _) k8)
    | exact CK.out _ (KS1.out _ _ _ k6.size k8))
   (first
    | (go_at_call 26; (with_reducible refine (BL.out _).mono ?_); rintro e w5 ⟨rfl, k5⟩; have k6 := (by first | exact KX.out _ _ (by assumption) k5 | exact KX.out _ _ (Below.drew (by assumption)) k5 | exact KX.out _ _ (Below.drew (KB.out _ _ (by assumption))) k5 | exact KX.out _ _ (KB.out _ _ (by assumption)) k5 : Below W2.heap.size W2 w5); (try (have rA : w5.heap[W2.heap.size]? = some (.cells #[.int .i64 0] 3 (0, 0)) := (k5.block _ (by simp)).trans (heap_alloc_new W2 _))))
    | (go_at_call 66; (with_reducible refine (BI.out _ (by first | exact k6 | exact Below.drew k6 | exact KB.out _ _ k6 | exact Below.drew (KB.out _ _ k6))).mono ?_); rintro e w6 ⟨rfl, k7⟩; have k8 := (by first | exact KX.out _ _ k6 k7 | exact KX.out _ _ (Below.drew k6) k7 | exact KX.out _ _ (KB.out _ _ k6) k7 | exact KX.out _ _ (Below.drew (KB.out _ _ k6)) k7 : Below W2.heap.size W2 w6); have nb := NB.out w6; obtain ⟨nb1, nb2⟩ := nb; (try (have rB : w6.heap[W2.heap.size]? = some (.cells #[.int .i64 0] 3 (0, 0)) := (k7.block _ (lt_of_block rA)).trans rA; obtain ⟨ra1, ra2⟩ := NR.out _ _ rB)); (try (have rC : w6.heap[w5.heap.size]? = some (.cells #[.int .i64 0] 3 (0, 0)) := (k7.block _ (by simp)).trans (heap_alloc_new w5 _); obtain ⟨rc1, rc2⟩ := NR.out _ _ rC))))
  all_goals
   go_wp2_with fail
   refine Met.intro ?_
   apply_assumption
   (repeat apply Exists.intro)
   refine ⟨?_, rfl⟩
   first
    | exact ⟨_, rfl, rfl, FN.out _ _ k8.size (KB.out _ _ k8) (heap_alloc_new w6 _)⟩
    | exact ⟨_, rfl, rfl, FN.out _ _ (Nat.le_refl _) (KS1.out _ _ _ (Nat.le_refl _) k8) (heap_setCell_same w6 _ 0 _ _ _ rB)⟩
    | exact ⟨_, rfl, rfl, FN.out _ _ k6.size (KS1.out _ _ _ k6.size k8) (heap_setCell_same w6 _ 0 _ _ _ rC)⟩
 case rest =>
  obtain ⟨bl, rfl, rfl, hF3, hbl, hk3⟩ := hcut
  have F3 := Lib.hid hF3
  have K3 := Lib.hid (And.intro hbl hk3)
  clear hF3 hbl hk3 BI FN NB NR KS1 c1 c2 c3 p0 p1 p2 p3 p4
  obtain ⟨c1, c2, c3, p0, p1, p2, p3, p4, -⟩ := CK.out wc K3.out.2
  have FIN : Hid (∀ W' v, Below wc.heap.size wc W' → Below W.heap.size W (W'.setCell ⟨br, 0, none⟩ v)) := Lib.hid (fun W' v k => by
   have h1 := KX.out _ _ K3.out.2 k
   have h2 := KW.out
   exact (h2.trans (h1.mono h2.size)).setCell (by have := HB.out; have := HBK.out; show W.heap.size ≤ br; omega) _)
  have hbr := F3.out.row (List.mem_cons_of_mem _ mr.out)
  have z0 : wc.frozen? ⟨br, 0, none⟩ = false := frozen_of_row wc br 0 _ _ hbr
  have q0 : wc.cell? ⟨br, 0, none⟩ = some (.int .i64 0) := by rw [cell_of_row _ _ _ _ _ _ hbr]; rfl
  have r1 : (wc.setCell ⟨br, 0, none⟩ (.int .i64 0)).cell? ⟨br, 0, none⟩ = some (.int .i64 0) := by rw [cell_of_row _ _ _ _ _ _ (heap_setCell_same wc br 0 _ _ _ hbr)]; rfl
  clear hbr
  go_wp2_with fail
  exact bodyPost_ret (v := .tuple #[.int .i64 0, .int .i64 0, .int .i64 1]) (by simp [results, Tryz.results37, go_sem, r1]) rfl ⟨rfl, FIN.out _ _ (Below.refl wc.heap.size wc)⟩
end Go.Proofs.YtflnpcgnenhogaaGreatDoor.ls
namespace Go.Proofs.YtflnpcgnenhogaaGreatDoor.ls
open Go.RowKit Go.Proofs.YtflnpcgnenhogaaGreatDoor.own Go.Proofs.YtflnpcgnenhogaaGreatDoor.bit

section
variable {w W W2 : World} {wr : Option (Nat × Bits)} {rd : Option (Nat × ByteArray × Nat)} {b : Bp} {T : List Tk} {l : Bits} {dr E qb : Nat} {gs : List (Nat × Obj)} {vL vC vB : Value} {V : List Value} {rs : List Rw} {ks : List (Nat × Obj)}
theorem DP.keepB (h : DP w wr rd b T l dr E qb gs vL vC vB V rs ks W) (hg : W.grownBy W2 vB.ownBlock) : W2.heap[qb]? = some (.cells (dpRow b vL vC vB dr E) 87 (0, 0)) := by
 obtain ⟨ka, h1, h2, h3, h4⟩ := h.1.perm (rot3 _ _ _ _)
 exact (hg.block _ (lt_of_block h.row) (h3 (qb, _) (List.mem_cons_self ..))).trans h.row
theorem DP.keepL (h : DP w wr rd b T l dr E qb gs vL vC vB V rs ks W) (hg : W.grownBy W2 vL.ownBlock) : W2.heap[qb]? = some (.cells (dpRow b vL vC vB dr E) 87 (0, 0)) := by
 obtain ⟨ka, h1, h2, h3, h4⟩ := h.1
 exact (hg.block _ (lt_of_block h.row) (h3 (qb, _) (List.mem_cons_self ..))).trans h.row
end
theorem row_cells {W : World} {qb : Nat} {b : Bp} {vL vC vB : Value} {dr E : Nat} (r : W.heap[qb]? = some (.cells (dpRow b vL vC vB dr E) 87 (0, 0))) : W.cell? ⟨qb, 5, none⟩ = some vL ∧ W.cell? ⟨qb, 6, none⟩ = some vC ∧ W.cell? ⟨qb, 7, none⟩ = some vB ∧ W.cell? ⟨qb, 9, none⟩ = some (.int .i64 (E : Int)) ∧ ∀ j, W.frozen? ⟨qb, j, none⟩ = false :=
 ⟨by rw [cell_of_row _ _ _ _ _ _ r]; rfl, by rw [cell_of_row _ _ _ _ _ _ r]; rfl, by rw [cell_of_row _ _ _ _ _ _ r]; rfl, by rw [cell_of_row _ _ _ _ _ _ r]; rfl, fun j => frozen_of_row W qb j _ _ r⟩
/-- the same, its rows not told of one list -/
def DPr (w : World) (wr : Option (Nat × Bits)) (rd : Option (Nat × ByteArray × Nat)) (b : Bp) (vL : Value) (V : List Value) (vC : Value) (cs : List Value) (vB : Value) (l : Bits) (dr E qb : Nat) (gs : List (Nat × Obj)) (rs : List Rw) (ks : List (Nat × Obj)) (W : World) : Prop :=
 Rws w wr rd (⟨34, vL, V⟩ :: ⟨3, vC, cs⟩ :: ⟨4, vB, bls l⟩ :: rs) ((qb, .cells (dpRow b vL vC vB dr E) 87 (0, 0)) :: (gs ++ ks)) W ∧ ∀ p ∈ gs ++ ks, p.1 ≠ qb
section
variable {w W W2 : World} {wr : Option (Nat × Bits)} {rd : Option (Nat × ByteArray × Nat)} {b : Bp} {T : List Tk} {l : Bits} {dr E qb : Nat} {gs kl : List (Nat × Obj)} {vL vC vB : Value} {V cs : List Value} {rs : List Rw} {ks : List (Nat × Obj)}
theorem DP.lists (h : DP w wr rd b T l dr E qb gs vL vC vB V rs ks W) (k : Below W.heap.size W W2) (hk : ∀ p ∈ kl, W.heap.size ≤ p.1 ∧ W2.heap[p.1]? = some p.2) : DP w wr rd b T l dr E qb (kl ++ gs) vL vC vB V rs ks W2 := by
 have hq := lt_of_block h.row
 refine ⟨(h.1.more (js := kl) k hk).sub (fun p hp => ?_), h.2.1.more (fun p hp => List.mem_append_right _ hp), fun p hp => ?_⟩
 ·simp only [List.mem_cons, List.mem_append] at hp ⊢
  rcases hp with hp | (hp | hp) | hp
  ·exact .inr (.inl hp)
  ·exact .inl hp
  ·exact .inr (.inr (.inl hp))
  ·exact .inr (.inr (.inr hp))
 ·simp only [List.mem_append] at hp
  rcases hp with (hp | hp) | hp
  ·have := (hk p hp).1
   omega
  ·exact h.2.2 p (List.mem_append_left _ hp)
  ·exact h.2.2 p (List.mem_append_right _ hp)
theorem DP.putL (h : DP w wr rd b T l dr E qb gs vL vC vB V rs ks W) {v' : Value} {x : Value} (own : W2.ownsRow 0 34 1 v' (T.length + 1) (V ++ [x])) (hg : W.grownBy W2 vL.ownBlock) (hw : v'.ownBlock = vL.ownBlock ∨ v'.ownBlock = some W.heap.size) :
  DPr w wr rd b v' (V ++ [x]) vC (chV T) vB l dr E qb gs rs ks (W2.setCell ⟨qb, 5, none⟩ v') := by
 have hl := h.2.1.1
 rw [List.length_map] at hl
 exact ⟨(h.1.push (v' := v') (xs' := V ++ [x]) (by rw [List.length_append, hl]; exact own) hg hw).store (j := 5) v' h.2.2, h.2.2⟩
theorem DPr.row (h : DPr w wr rd b vL V vC cs vB l dr E qb gs rs ks W) : W.heap[qb]? = some (.cells (dpRow b vL vC vB dr E) 87 (0, 0)) := h.1.has (List.mem_cons_self ..)
theorem DPr.next (h : DPr w wr rd b vL V vC cs vB l dr E qb gs rs ks W) (k : Below W.heap.size W W2) : DPr w wr rd b vL V vC cs vB l dr E qb gs rs ks W2 := ⟨h.1.next k, h.2⟩
theorem DPr.ownC (h : DPr w wr rd b vL V vC cs vB l dr E qb gs rs ks W) : W.ownsRow 0 3 1 vC cs.length cs := h.1.swap.own
theorem DPr.keepC (h : DPr w wr rd b vL V vC cs vB l dr E qb gs rs ks W) (hg : W.grownBy W2 vC.ownBlock) : W2.heap[qb]? = some (.cells (dpRow b vL vC vB dr E) 87 (0, 0)) := by
 obtain ⟨ka, h1, h2, h3, h4⟩ := h.1.swap
 exact (hg.block _ (lt_of_block h.row) (h3 (qb, _) (List.mem_cons_self ..))).trans h.row
theorem DPr.putC (h : DPr w wr rd b vL V vC cs vB l dr E qb gs rs ks W) {v' x : Value} (own : W2.ownsRow 0 3 1 v' (cs.length + 1) (cs ++ [x])) (hg : W.grownBy W2 vC.ownBlock) (hw : v'.ownBlock = vC.ownBlock ∨ v'.ownBlock = some W.heap.size) :
  DPr w wr rd b vL V v' (cs ++ [x]) vB l dr E qb gs rs ks (W2.setCell ⟨qb, 6, none⟩ v') :=
 ⟨((h.1.swap.push (v' := v') (xs' := cs ++ [x]) (by rw [List.length_append]; exact own) hg hw).swap).store (j := 6) v' h.2, h.2⟩
theorem DPr.putE (h : DPr w wr rd b vL V vC cs vB l dr E qb gs rs ks W) (E' : Nat) : DPr w wr rd b vL V vC cs vB l dr E' qb gs rs ks (W.setCell ⟨qb, 9, none⟩ (.int .i64 (E' : Int))) :=
 ⟨h.1.store (j := 9) (.int .i64 (E' : Int)) h.2, h.2⟩
end
/-- what Add answers where a list may be -/
def DAddP (w : World) (wr : Option (Nat × Bits)) (rd : Option (Nat × ByteArray × Nat)) (b : Bp) (T : List Tk) (l : Bits) (dr E qb : Nat) (succ : List Nat) (rs : List Rw) (ks g0 : List (Nat × Obj)) (e : Ending) (w' : World) : Prop :=
 e = .returned (.tuple #[.int .i64 ((pickB b T succ).2.1 : Int), .int .i64 ((pickB b T succ).1 : Int), .int .i64 0]) ∧ ∃ gs vL vC vB V, DP w wr rd b (T ++ [putB b T succ]) (l ++ addB b T succ) dr (E + succ.length) qb gs vL vC vB V rs ks w' ∧ ∀ p ∈ gs, p ∈ g0 ∨ ∀ q ∈ ks, p.1 ≠ q.1
set_option maxRecDepth 100000 in
set_option maxHeartbeats 12800000 in
theorem dadd_yes {w W : World} {wr : Option (Nat × Bits)} {rd : Option (Nat × ByteArray × Nat)} {b : Bp} {T : List Tk} {l : Bits} {dr E qb : Nat} {gs : List (Nat × Obj)} {vL vC vB : Value} {V : List Value} {rs : List Rw} {ks : List (Nat × Obj)}
  (h : DP w wr rd b T l dr E qb gs vL vC vB V rs ks W) (hb : b.p.ok) (hdp : b.depth ≤ 16) (hx : T.length < 65536) (hT : TOk T) (a : Option Addr) (succ : List Nat) (cap : Nat) (hc : succ.length ≤ cap) (hs : Ris succ) (hA : LV w a succ) (hE : E + succ.length ≤ 1048576) (hl : l.length + (addB b T succ).length ≤ 1000000000) :
  Calls Tryz.prog 38 #[.pointer (some ⟨qb, 0, none⟩), .slice a succ.length cap] W (DAddP w wr rd b T l dr E qb succ rs ks gs) := by
 obtain ⟨j0, hj, hj0, hj1, hj2⟩ := info_parts Tryz.infoU32
 obtain ⟨g0, hg, hg0, hg1, hg2⟩ := info_parts Tryz.infoU32s
 obtain ⟨b0, hb0, hbz0, hbz1, hbz2⟩ := info_parts Tryz.infoBool
 obtain ⟨i0, hi, hi0, hi1, hi2⟩ := info_parts Tryz.infoInt
 have hs9 := hs.len
 obtain ⟨aL, dL, aC, dC, rfl, rfl, hdL, hdC, hv⟩ := h.view (by omega)
 have H := Lib.hid h
 have HV := Lib.hid (fun W' (k : Below W.heap.size W W') => hv.next k)
 have HAw := Lib.hid (fun W' (k : Below w.heap.size w W') => hA.below k)
 have HA := Lib.hid (fun W' (k : Below W.heap.size W W') => hA.below (h.below.trans (k.mono h.below.size)))
 have HT := Lib.hid hT
 have HS := Lib.hid hs
 have HB := Lib.hid hb
 have SU := Lib.hid (fun W' (k : Below W.heap.size W W') => dsucc_any W' a succ cap (HA.out W' k))
 have BE := Lib.hid (fun W' (k : Below W.heap.size W W') => dbest_any W' (hv.next k) hdL hdC hb hx hT a succ cap hc hs (HA.out W' k))
 have BL := Lib.hid (fun W' => dblist_any (b.p.win : Int) (b.depth : Int) (b.p.itv : Int) (b.p.zet : Int) (b.cap : Int) W')
 have PB := Lib.hid (pickB_ok b T succ)
 have LD := Lib.hid (fun W' (k : Below W.heap.size W W') (o : Option Addr) (other : List Nat) (co r : Nat) (ho : other.length ≤ co) (hm : MayN T.length succ other r b.p) (hB : LV W' o other) => dlaid_any b.p T.length W' a succ cap o other co r hc ho hm (HA.out W' k) hB)
 obtain ⟨m, hm⟩ : ∃ z, succ.length = z := ⟨_, rfl⟩
 have HM := Lib.hid hm
 obtain ⟨nt, hnt⟩ : ∃ z, T.length = z := ⟨_, rfl⟩
 have HNT := Lib.hid hnt
 rw [hm] at hc hs9 LD SU BE hE ⊢
 rw [hnt] at hdL hdC hx LD
 have VC : Hid (∀ W', Below W.heap.size W W' → W'.cell? ⟨qb, 0, none⟩ = some (.int .i64 (b.p.win : Int)) ∧ W'.cell? ⟨qb, 1, none⟩ = some (.int .i64 (b.depth : Int)) ∧ W'.cell? ⟨qb, 2, none⟩ = some (.int .i64 (b.p.itv : Int)) ∧ W'.cell? ⟨qb, 3, none⟩ = some (.int .i64 (b.p.zet : Int)) ∧ W'.cell? ⟨qb, 4, none⟩ = some (.int .i64 (b.cap : Int)) ∧ W'.cell? ⟨qb, 5, none⟩ = some (.slice aL nt dL) ∧ W'.cell? ⟨qb, 6, none⟩ = some (.slice aC nt dC) ∧ W'.cell? ⟨qb, 7, none⟩ = some vB ∧ W'.cell? ⟨qb, 9, none⟩ = some (.int .i64 (E : Int))) := Lib.hid (fun W' k => by
  have h := hv.next k
  exact ⟨h.p0, h.p1, h.p2, h.p3, h.p4, by rw [← hnt]; exact h.cL, by rw [← hnt]; exact h.cC, h.cB, h.cE⟩)
 unfold parV at BL LD
 unfold bpV at BL
 clear h hv hT hs hA hm hnt hb
 have K0 := Below.refl W.heap.size W
 obtain ⟨p0, p1, p2, p3, p4, p5, p6, p7, p9⟩ := VC.out _ K0
 have SU0 := Lib.hid (SU.out _ K0)
 have i1 : decide ((65536 : Int) ≤ (nt : Int)) = false := decide_eq_false (by omega)
 have i1n : decide (65536 ≤ nt) = false := decide_eq_false (by omega)
 have i2 : decide ((1048576 : Int) < (E : Int) + (m : Int)) = false := decide_eq_false (by omega)
 go_enter Tryz.func38, Tryz.ntmps38
 go_wp2_with fail
 with_reducible refine SU0.out.mono ?_
 rintro e w1 ⟨b1, rfl, hb1, k1⟩
 obtain rfl := hb1.2 HS.out
 have K1 := Lib.hid k1
 clear p0 p1 p2 p3 p4 p5 p6 p7 p9 k1 K0 hb1 SU0 SU
 obtain ⟨p0, p1, p2, p3, p4, p5, p6, p7, p9⟩ := VC.out _ K1.out
 have BE1 := Lib.hid (BE.out _ K1.out)
 go_wp2_with fail
 with_reducible refine BE1.out.mono ?_
 rintro e w2 ⟨rfl, k2⟩
 have K2 := Lib.hid (K1.out.trans (k2.mono K1.out.size))
 clear p0 p1 p2 p3 p4 p5 p6 p7 p9 k2 BE1 BE i1 i1n i2
 have hmq := PB.out.may HB.out (by rw [HNT.out]; exact hx) HS.out HT.out
 obtain ⟨q, hq⟩ : ∃ q, pickB b T succ = q := ⟨_, rfl⟩
 have ADDB : Hid (addB b T succ = lay T.length succ q.2.2.1 q.2.1 b.p) := Lib.hid (by rw [← hq]; rfl)
 have PUTB : Hid (putB b T succ = (succ, chainOf q)) := Lib.hid (by rw [← hq]; rfl)
 rw [hq] at hmq PB ⊢
 have HQ := Lib.hid hq
 obtain ⟨lq, rq, tl, tc⟩ := q
 dsimp only at hmq ADDB ⊢
 rw [HNT.out] at hmq ADDB
 obtain ⟨tn, htn⟩ : ∃ z, tl.length = z := ⟨_, rfl⟩
 have HTN := Lib.hid htn
 obtain ⟨ch, hch⟩ : ∃ z, chainOf (lq, rq, tl, tc) = z := ⟨_, rfl⟩
 rw [hch] at PUTB
 have HCH := Lib.hid hch
 have HMQ := Lib.hid hmq
 clear hq htn hch hmq
 go_upto_if 41 with fail
 go_cut [10, 11] from 40 to 60 (fun v10 v11 wc => ∃ s d, v10 = .int .i64 (ch : Int) ∧ v11 = .slice s tn d ∧ tn ≤ d ∧ LV w2 s tl ∧ w2 = wc)
 case first =>
  by_cases h0 : 0 < rq
  ·obtain ⟨rfl, -⟩ | ⟨-, hbk⟩ := PB.out.by_
   ·exact absurd h0 (Nat.lt_irrefl 0)
   ·dsimp only at hbk
    obtain ⟨y1, y2, y3, y4, y5⟩ := back_some hbk
    unfold tkMay at y4
    dsimp only at y4
    have hc16 : tc < 16 := by omega
    rw [HNT.out] at y2
    obtain ⟨j, hj9⟩ : ∃ z, nt - rq = z := ⟨_, rfl⟩
    have hjT : j < T.length := by rw [HNT.out]; omega
    have e1 : (tl, tc) = T[j] := by
     rw [y5, tkOf_at h0 (by rw [HNT.out]; exact y2)]
     congr 1
     rw [HNT.out]
     exact hj9
    have hv := HV.out w2 K2.out
    obtain ⟨g, o, s, d, rfl, hg8, hcl, hd, hLV⟩ := hv.l.2 j (by rw [List.length_map]; exact hjT)
    obtain ⟨g2, o2, rfl, hg9, hcc⟩ := hv.c.2 j (by rw [List.length_map]; exact hjT)
    rw [List.getElem_map, ← e1] at hcl hd hLV hcc
    dsimp only at hcl hd hLV hcc
    rw [HTN.out] at hcl hd
    have HLV := Lib.hid hLV
    obtain ⟨p0, p1, p2, p3, p4, p5, p6, p7, p9⟩ := VC.out _ K2.out
    have w1 : IntKind.i64.wrap ((nt : Int) - (rq : Int)) = (j : Int) := by rw [IntWalk.i64_in _ (by omega)]; omega
    have hjn : (j : Int) < (nt : Int) := by omega
    have hj0 : (0 : Int) ≤ (j : Int) := Int.natCast_nonneg _
    have j1 : decide ((0 : Int) < (rq : Int)) = true := decide_eq_true (by omega)
    have j1n : decide (0 < rq) = true := decide_eq_true h0
    have CHE : Hid ((ch : Int) = (tc : Int) + 1) := Lib.hid (by
     have h := HCH.out
     unfold chainOf at h
     dsimp only at h
     rw [if_pos h0] at h
     omega)
    clear hv e1 hLV hj9 hbk y1 y2 y3 y4 y5 hg8 hg9
    go_wp2_with fail
    go_meet
    case rel => exact ⟨s, d, by rw [CHE.out], rfl, hd, HLV.out, rfl⟩
  ·obtain ⟨h1, h2⟩ | ⟨h1, -⟩ := PB.out.by_
   ·dsimp only at h1 h2
    injection h2 with h2 h3
    have htn0 : tn = 0 := by rw [← HTN.out, h2]; rfl
    have hch0 : ch = 0 := by
     have h := HCH.out
     unfold chainOf at h
     dsimp only at h
     rw [if_neg h0] at h
     exact h.symm
    have HTL := Lib.hid h2
    subst htn0 hch0 h1
    clear h2 h3
    go_wp2_with fail
    go_meet
    case rel => exact ⟨none, 0, rfl, rfl, Nat.le_refl _, by rw [HTL.out]; exact LV.nil, rfl⟩
   ·exact absurd h1 h0
 case rest =>
  obtain ⟨s, d, rfl, rfl, hd, hLV, hw2⟩ := hcut
  subst hw2
  have HLV := Lib.hid hLV
  obtain ⟨ob, hob⟩ : ∃ z, lay nt succ tl rq b.p = z := ⟨_, rfl⟩
  have HOB := Lib.hid hob
  rw [hob] at ADDB
  have hl2 : l.length + ob.length ≤ 1000000000 := by rw [← ADDB.out]; exact hl
  have LA : Hid (∀ W', Below w2.heap.size w2 W' → Calls Tryz.prog 55 #[.int .i64 (nt : Int), .slice a m cap, .slice s tn d, .int .i64 (rq : Int), .agg #[.int .i64 (b.p.win : Int), .int .i64 (b.p.itv : Int), .int .i64 (b.p.zet : Int)]] W' (RowPost ob W')) := Lib.hid (fun W' k => by
   have h := LD.out W' (K2.out.trans (k.mono K2.out.size)) s tl d rq (by rw [HTN.out]; exact hd) HMQ.out (HLV.out.below k)
   rw [HTN.out, HOB.out] at h
   exact h)
  have H2 := Lib.hid (H.out.next K2.out)
  have C3 : Hid (l.length + ob.length ≤ maxLen) := Lib.hid (by simp only [maxLen]; omega)
  have C4 : Hid ((l.length + ob.length) * 1 ≤ 140737488355328) := Lib.hid (by omega)
  obtain ⟨sB, dB, eB⟩ := own_shape H2.out.ownB
  subst eB
  have MF : Hid (∀ W', Below w2.heap.size w2 W' → W'.cell? ⟨qb, 0, none⟩ = some (.int .i64 (b.p.win : Int)) ∧ W'.cell? ⟨qb, 1, none⟩ = some (.int .i64 (b.depth : Int)) ∧ W'.cell? ⟨qb, 2, none⟩ = some (.int .i64 (b.p.itv : Int)) ∧ W'.cell? ⟨qb, 3, none⟩ = some (.int .i64 (b.p.zet : Int)) ∧ W'.cell? ⟨qb, 4, none⟩ = some (.int .i64 (b.cap : Int)) ∧ W'.cell? ⟨qb, 7, none⟩ = some (.slice sB l.length dB) ∧ Below w2.heap.size w2 W') := Lib.hid (fun W' k => by
   obtain ⟨p0, p1, p2, p3, p4, p5, p6, p7, p9⟩ := VC.out W' (K2.out.trans (k.mono K2.out.size))
   exact ⟨p0, p1, p2, p3, p4, p7, k⟩)
  have KX := Lib.hid (fun W W' (h : Below w2.heap.size w2 W) (k : Below W.heap.size W W') => h.trans (k.mono h.size))
  clear hLV hob hl
  go_upto_region 14 with fail
  go_cut [10] from 61 to 80 (fun v10 wc => v10 = .int .i64 (ch : Int) ∧ ∃ vB', DP w wr rd b T (l ++ ob) dr E qb gs (.slice aL T.length dL) (.slice aC T.length dC) vB' V rs ks wc)
  case first =>
   --A
   obtain ⟨p0, p1, p2, p3, p4, p7, k0⟩ := MF.out w2.drew (Below.drew (Below.refl _ _))
   go_region_law (first
    | (go_simp; go_at_call 64; (with_reducible refine (BL.out _).mono ?_); rintro e w3 ⟨rfl, k3⟩; have k3 := KX.out _ _ k0 k3; obtain ⟨q0, q1, q2, q3, q4, q7, -⟩ := MF.out w3 k3; dsimp only)
    | (go_simp; go_at_call 55; (with_reducible refine (LA.out _ k3).mono ?_); rintro e w4 ⟨v4, rfl, own4, k4⟩; have k4 := KX.out _ _ k3 k4; obtain ⟨r0, r1, r2, r3, r4, r7, -⟩ := MF.out w4 k4; have H4 := Lib.hid (H2.out.next k4); have own1 := H4.out.ownB; dsimp only)
    | (refine wp_append_row _ (by rfl) (.tmp 66) (.tmp 76) 26 rfl 0 _ 4 b0 (.bool false) 1 Tryz.underlying26 hb0 hbz0 hbz1 hbz2 rfl _ l.length _ rfl own1 _ ob.length _ rfl own4 (bls_one _) C3.out C4.out (Nat.zero_le _) ?_; intro v5 w5 own5 hg5 hw5; have D5 := Lib.hid (H4.out.putB ob own5 hg5 hw5); obtain ⟨-, -, s7, -, fz5⟩ := row_cells (H4.out.keepB hg5); have f7 := fz5 7; clear fz5; obtain ⟨a5, cap5, rfl⟩ := own_shape own5; clear own5 hg5 hw5))
   all_goals
    go_wp2_with fail
    refine Met.intro ?_
    apply_assumption
    (repeat apply Exists.intro)
    refine ⟨⟨rfl, _, D5.out⟩, rfl⟩
  obtain ⟨rfl, vB5, hD5⟩ := hcut
  rename World => W5
  have D5 := Lib.hid hD5
  clear hD5 MF LA KX H2 LD C3 C4 hl2
  have AL := Lib.hid (fun W' (k : Below W5.heap.size W5 W') => HAw.out W' ((D5.out.next k).below))
  have hT9 : m ≤ 65536 := hs9
  have HS9 := Lib.hid (fun x (hx : x ∈ succ) => HS.out.2 x hx)
  have O1 : Hid ((W5.alloc (.cells #[] 77)).drew.ownsRow W5.heap.size 77 1 (.slice (some ⟨W5.heap.size, 0, none⟩) 0 0) ([] : List Nat).length (u32V [])) := Lib.hid ⟨rfl, .inr ⟨W5.heap.size, 0, _, rfl, Nat.le_refl _, heap_alloc_new W5 _, Nat.le_refl _, by decide, rfl, rfl⟩⟩
  have K1 : Hid (Below W5.heap.size W5 (W5.alloc (.cells #[] 77)).drew) := Lib.hid (Below.drew ((Below.refl _ _).alloc (Nat.le_refl _) _))
  have A1 := Lib.hid (AL.out _ K1.out)
  have C5 : Hid (0 + m ≤ maxLen) := Lib.hid (by simp only [maxLen]; omega)
  have C6 : Hid ((0 + m) * 4 ≤ 140737488355328) := Lib.hid (by omega)
  have C7 : Hid (nt + 1 ≤ maxLen) := Lib.hid (by simp only [maxLen]; omega)
  have C8 : Hid ((nt + 1) * 24 ≤ 140737488355328) := Lib.hid (by omega)
  have O0 := Lib.hid D5.out.row
  go_upto_region 15 with fail
  go_cut [10] from 81 to 92 (fun v10 wc => v10 = .int .i64 (ch : Int) ∧ ∃ gs' vL' sl dl, GRow gs' (V ++ [.slice sl m dl]) (T.map (·.1) ++ [succ]) ∧ DPr w wr rd b vL' (V ++ [.slice sl m dl]) (.slice aC T.length dC) (chV T) vB5 (l ++ ob) dr E qb gs' rs ks wc ∧ ∀ p ∈ gs', p ∈ gs ∨ ∀ q ∈ ks, p.1 ≠ q.1)
  case first =>
   --B
   obtain ⟨u5, u6, -, -, -⟩ := row_cells O0.out
   have u5 : W5.drew.cell? ⟨qb, 5, none⟩ = some (.slice aL T.length dL) := u5
   have u5b : (W5.alloc (.cells #[] 77)).drew.cell? ⟨qb, 5, none⟩ = some (.slice aL T.length dL) := (K1.out.cell (lt_of_block O0.out)).trans u5
   rw [HNT.out] at u5 u5b
   go_region_law (first
    | (refine wp_append_lv _ (by rfl) (.tmp 86) (.tmp 87) 34 rfl W5.heap.size 77 j0 _ 4 Tryz.underlying34 hj hj0 hj1 hj2 rfl _ 0 _ rfl O1.out a m cap succ rfl HM.out A1.out C5.out C6.out K1.out.size ?_; intro v6 w6 own6 hg6 hw6; obtain ⟨kl, sl, dl, e6, hdl, hstl, hkl⟩ := own_stands (W := w6) (base := W5.heap.size) (v := v6) (l := succ) (by rw [HM.out]; rw [Nat.zero_add] at own6; exact own6) (by rw [HM.out]; exact hT9) (fun x hx => by have := HS9.out x hx; omega); rw [HM.out] at e6; subst e6; have D6 := Lib.hid (D5.out.lists (kl := kl) (K1.out.grown hg6 K1.out.size (fun k hk => (O1.out.lt k hk).1)) hkl); obtain ⟨y5, -, -, -, -⟩ := row_cells D6.out.row; obtain ⟨y5b, -, -, -, -⟩ := row_cells (D6.out.next ((Below.refl _ _).alloc (Nat.le_refl _) (.cells #[.slice sl m dl] 34))).row; rw [HNT.out] at y5 y5b; have OL := Lib.hid ((D6.out.next ((Below.refl _ _).alloc (Nat.le_refl _) (.cells #[.slice sl m dl] 34))).ownL); rw [HNT.out] at OL; have OO : Hid ((w6.alloc (.cells #[.slice sl m dl] 34)).ownsRow w6.heap.size 34 1 (.slice (some ⟨w6.heap.size, 0, none⟩) 1 1) 1 [.slice sl m dl]) := Lib.hid ⟨rfl, .inr ⟨w6.heap.size, 1, _, rfl, Nat.le_refl _, heap_alloc_new w6 _, Nat.le_refl _, by decide, rfl, rfl⟩⟩; have ST6 := Lib.hid (And.intro hdl hstl); have NEW6 : Hid (∀ p ∈ kl ++ gs, p ∈ gs ∨ ∀ q ∈ ks, p.1 ≠ q.1) := Lib.hid (fun p hp => (List.mem_append.1 hp).elim (fun hp => .inr (fun q hq => Nat.ne_of_gt (Nat.lt_of_lt_of_le (lt_of_block (D5.out.1.has (p := q) (List.mem_cons_of_mem _ (List.mem_append_right _ hq)))) (hkl p hp).1))) .inl); clear own6 hg6 hw6 hkl hdl hstl; dsimp only)
    | (refine wp_append_row _ (by rfl) (.tmp 85) (.tmp 89) 54 rfl 0 _ 34 g0 (.slice none 0 0) 24 Tryz.underlying54 hg hg0 hg1 hg2 rfl _ nt _ rfl OL.out _ 1 _ rfl OO.out (fun u hu => by simp at hu; subst hu; rfl) C7.out C8.out (Nat.zero_le _) ?_; intro v7 w7 own7 hg7 hw7; rw [← HNT.out] at own7 hg7 hw7; have h6a := D6.out.next ((Below.refl _ _).alloc (Nat.le_refl _) (.cells #[.slice sl m dl] 34)); obtain ⟨z5, -, -, -, fz⟩ := row_cells (h6a.keepL hg7); have fz5 := fz 5; rw [HNT.out] at z5; have D7 := Lib.hid (h6a.putL own7 hg7 hw7); have G7 := Lib.hid (D6.out.2.1.snoc succ sl dl ST6.out.1 (ST6.out.2.more (fun p hp => List.mem_append_left _ hp))); obtain ⟨a7, cap7, e7⟩ := own_shape own7; rw [HNT.out] at e7; subst e7; clear own7 hg7 hw7 h6a fz))
   all_goals
    go_wp2_with fail
    refine Met.intro ?_
    apply_assumption
    (repeat apply Exists.intro)
    refine ⟨⟨rfl, _, _, sl, dl, by rw [← HM.out]; exact G7.out, D7.out, NEW6.out⟩, rfl⟩
  obtain ⟨rfl, gs7, vL7, sl, dl, hG7, hD7, hn7⟩ := hcut
  rename World => W7
  have G7 := Lib.hid hG7
  have D7 := Lib.hid hD7
  have N7 := Lib.hid hn7
  clear hG7 hD7 hn7 O0 O1 K1 A1 C5 C6 C7 C8 AL D5
  have C3 : Hid (nt + 1 ≤ maxLen) := Lib.hid (by simp only [maxLen]; omega)
  have C4 : Hid ((nt + 1) * 8 ≤ 140737488355328) := Lib.hid (by omega)
  obtain ⟨u5, u6, u7, u9, fz⟩ := row_cells D7.out.row
  have f6 := fz 6
  have f9 := fz 9
  rw [HNT.out] at u6
  have OC : Hid ((W7.alloc (.cells #[.int .i64 (ch : Int)] 3)).ownsRow 0 3 1 (.slice aC nt dC) nt (chV T)) := Lib.hid (by
   have h := (D7.out.next ((Below.refl _ _).alloc (Nat.le_refl W7.heap.size) (.cells #[.int .i64 (ch : Int)] 3))).ownC
   rw [chV_length, HNT.out] at h
   exact h)
  clear u5 u7 fz
  go_wp2_with (at_builtin; refine wpList_append_at _ rfl _ _ 83 rfl 0 3 i0 _ 1 8 Tryz.underlying83 hi hi0 hi1 hi2 rfl (by decide) _ nt _ rfl OC.out ⟨W7.heap.size, 0, none⟩ 1 1 [.int .i64 (ch : Int)] rfl rfl (cell_one_new _ _ _) (fun u hu => by simp at hu; subst hu; rfl) C3.out C4.out (Nat.zero_le _) (by decide) ?_)
  intro v8 w8 own8 hg8 hw8
  rw [← HNT.out] at own8 hg8 hw8
  have h7a := D7.out.next ((Below.refl _ _).alloc (Nat.le_refl W7.heap.size) (.cells #[.int .i64 (ch : Int)] 3))
  obtain ⟨-, z6, -, z9, fz⟩ := row_cells (h7a.keepC hg8)
  have z6 : w8.cell? ⟨qb, 6, none⟩ = some (.slice aC nt dC) := by rw [← HNT.out]; exact z6
  have fz6 := fz 6
  have D8 := Lib.hid (h7a.putC (x := .int .i64 (ch : Int)) (by rw [chV_length]; exact own8) hg8 (by simpa using hw8))
  obtain ⟨a8, cap8, e8⟩ := own_shape own8
  rw [HNT.out] at e8
  subst e8
  clear own8 hg8 hw8 h7a fz u6 f6 f9 u9 OC C3 C4
  go_upto_region 17 with fail
  generalize hW8 : World.setCell w8 _ _ = W8 at D8 ⊢
  clear hW8 z6 fz6 z9
  obtain ⟨-, -, -, x9, fz⟩ := row_cells D8.out.row
  have f9 := fz 9
  have D9 := Lib.hid (D8.out.putE (E + m))
  clear fz
  go_wp2_with fail
  have FIN : Hid (DAddP w wr rd b T l dr E qb succ rs ks gs (.returned (.tuple #[.int .i64 (rq : Int), .int .i64 (lq : Int), .int .i64 0])) (W8.setCell ⟨qb, 9, none⟩ (.int .i64 ((E : Int) + (m : Int))))) := Lib.hid (by
   unfold DAddP
   rw [HQ.out]
   refine ⟨rfl, gs7, vL7, .slice a8 (nt + 1) cap8, vB5, V ++ [.slice sl m dl], ?_, N7.out⟩
   have h9 := D9.out
   rw [Int.natCast_add] at h9
   unfold DP
   rw [chV_snoc, PUTB.out, ADDB.out, HM.out, List.map_append]
   exact ⟨h9.1, G7.out, h9.2⟩)
  exact bodyPost_ret (v := .tuple #[.int .i64 (rq : Int), .int .i64 (lq : Int), .int .i64 0]) (by simp [results, Tryz.results38, go_sem]) rfl FIN.out
end Go.Proofs.YtflnpcgnenhogaaGreatDoor.ls
namespace Go.Proofs.YtflnpcgnenhogaaGreatDoor.ls
open Go.RowKit Go.Proofs.YtflnpcgnenhogaaGreatDoor.own Go.Proofs.YtflnpcgnenhogaaGreatDoor.bit

/-- Rws.call where the call turns blocks that stand beside -/
theorem Rws.call2 {α : Type} {w W : World} {wr : Option (Nat × Bits)} {rd : Option (Nat × ByteArray × Nat)} {f : FuncId} {args : Array Value} {P : α → Ending → World → Prop} {wr' : α → Option (Nat × Bits)} {rd' : α → Option (Nat × ByteArray × Nat)} {F : α → List (Nat × Obj)} : ∀ {rs : List Rw} {K : List (Nat × Obj)}, Rws w wr rd rs K W →
  (∀ Kx, FS w wr rd (Kx ++ K) W → (∀ p ∈ Kx, ∀ q ∈ K, p.1 ≠ q.1) → Calls Tryz.prog f args W fun e w' => ∃ x, P x e w' ∧ (∀ p ∈ F x, (∃ o, (p.1, o) ∈ K) ∨ W.heap.size ≤ p.1) ∧ FS w (wr' x) (rd' x) (Kx ++ F x) w') → Calls Tryz.prog f args W fun e w' => ∃ x, P x e w' ∧ (∀ p ∈ F x, (∃ o, (p.1, o) ∈ K) ∨ W.heap.size ≤ p.1) ∧ Rws w (wr' x) (rd' x) rs (F x) w'
 | [], K, h, hc => (hc [] h (fun p hp => by cases hp)).mono (fun e w' h => h)
 | r :: rs, K, ⟨ka, h1, h2, h3, h4⟩, hc => by
  have f := h4.fs
  refine Calls.mono (Rws.call2 (wr' := wr') (rd' := rd') (F := fun x => ka ++ F x) (P := fun x e w' => P x e w' ∧ ∀ p ∈ F x, (∃ o, (p.1, o) ∈ K) ∨ W.heap.size ≤ p.1) h4 (fun Kx hx hn => ?_)) ?_
  ·rw [← List.append_assoc] at hx
   refine (hc _ hx (fun p hp q hq => ?_)).mono ?_
   ·rcases List.mem_append.1 hp with hp | hp
    ·exact hn p hp q (List.mem_append_right _ hq)
    ·exact fun e => h3 q hq (by rw [← e]; exact h1.2 p hp)
   rintro e w' ⟨x, p1, p2, p3⟩
   refine ⟨x, ⟨p1, p2⟩, fun p hp => ?_, by rw [← List.append_assoc]; exact p3⟩
   rcases List.mem_append.1 hp with hp | hp
   ·exact .inl ⟨p.2, List.mem_append_left _ hp⟩
   ·rcases p2 p hp with ⟨o, ho⟩ | hl
    ·exact .inl ⟨o, List.mem_append_right _ ho⟩
    ·exact .inr hl
  ·rintro e w' ⟨x, ⟨p1, p2⟩, _, p4⟩
   refine ⟨x, p1, p2, ka, h1, Rw.same h2 h1 f p4.fs, fun p hp e => ?_, p4⟩
   rcases p2 p hp with ⟨o, ho⟩ | hl
   ·exact h3 _ ho e
   ·obtain ⟨o, ho⟩ := h1.1 p.1 e.symm
    have := lt_of_block (f.row (b := p.1) (o := o) (List.mem_append_left _ ho))
    omega
/-- both packers: the document's (b, T, B, D, E at qb), the program's (T', its writer's bits, D', E' at kb, the writer at wb), blocks beside -/
def PQ (w : World) (b : Bp) (T : List Tk) (B : Bits) (D E qb : Nat) (T' : List Tk) (L : Bits) (D' E' kb wb : Nat) (K : List (Nat × Obj)) (W : World) : Prop :=
 ∃ row ls gs vL vC vB V, DP w (some (wb, L)) none b T B D E qb gs vL vC vB V [] ((kb, .cells row 129 (0, 0)) :: (ls ++ K)) W ∧ PackRow b T' wb E' D' row ls ∧ (∀ p ∈ gs ++ (ls ++ K), p.1 ≠ kb) ∧ ∀ p ∈ gs ++ ls, ∀ q ∈ K, p.1 ≠ q.1
section
variable {w W W2 : World} {b : Bp} {T T' : List Tk} {B L : Bits} {D E qb D' E' kb wb : Nat} {K K' : List (Nat × Obj)}
theorem PQ.next (h : PQ w b T B D E qb T' L D' E' kb wb K W) (k : Below W.heap.size W W2) : PQ w b T B D E qb T' L D' E' kb wb K W2 := by
 obtain ⟨row, ls, gs, vL, vC, vB, V, h1, h2, h3, h5⟩ := h
 exact ⟨row, ls, gs, vL, vC, vB, V, h1.next k, h2, h3, h5⟩
theorem PQ.below (h : PQ w b T B D E qb T' L D' E' kb wb K W) : Below w.heap.size w W := by
 obtain ⟨row, ls, gs, vL, vC, vB, V, h1, h2, h3, h5⟩ := h
 exact h1.below
theorem PQ.fs (h : PQ w b T B D E qb T' L D' E' kb wb K W) : FS w (some (wb, L)) none K W := by
 obtain ⟨row, ls, gs, vL, vC, vB, V, h1, h2, h3, h5⟩ := h
 exact h1.1.fs.sub (fun p hp => by simp [hp])
theorem PQ.has (h : PQ w b T B D E qb T' L D' E' kb wb K W) {p : Nat × Obj} (hp : p ∈ K) : W.heap[p.1]? = some p.2 := h.fs.row (b := p.1) (o := p.2) hp
theorem PQ.sub (h : PQ w b T B D E qb T' L D' E' kb wb K W) (hs : ∀ p ∈ K', p ∈ K) : PQ w b T B D E qb T' L D' E' kb wb K' W := by
 obtain ⟨row, ls, gs, vL, vC, vB, V, h1, h2, h3, h5⟩ := h
 have hh : ∀ p ∈ gs ++ ((kb, Obj.cells row 129 (0, 0)) :: (ls ++ K')), p ∈ gs ++ ((kb, Obj.cells row 129 (0, 0)) :: (ls ++ K)) := fun p hp => by
  simp only [List.mem_append, List.mem_cons] at hp ⊢
  rcases hp with hp | hp | hp | hp
  ·exact .inl hp
  ·exact .inr (.inl hp)
  ·exact .inr (.inr (.inl hp))
  ·exact .inr (.inr (.inr (hs p hp)))
 refine ⟨row, ls, gs, vL, vC, vB, V, ⟨h1.1.sub (fun p hp => ?_), h1.2.1, fun p hp => h1.2.2 p (hh p hp)⟩, h2, fun p hp => ?_, fun p hp q hq => h5 p hp q (hs q hq)⟩
 ·rcases List.mem_cons.1 hp with hp | hp
  ·exact List.mem_cons.2 (.inl hp)
  ·exact List.mem_cons_of_mem _ (hh p hp)
 ·simp only [List.mem_append] at hp
  rcases hp with hp | hp | hp
  ·exact h3 p (by simp [hp])
  ·exact h3 p (by simp [hp])
  ·exact h3 p (by simp [hs p hp])
/-- blocks that are new stand beside -/
theorem PQ.more {js : List (Nat × Obj)} (h : PQ w b T B D E qb T' L D' E' kb wb K W) (k : Below W.heap.size W W2) (hj : ∀ p ∈ js, W.heap.size ≤ p.1 ∧ W2.heap[p.1]? = some p.2) : PQ w b T B D E qb T' L D' E' kb wb (js ++ K) W2 := by
 obtain ⟨row, ls, gs, vL, vC, vB, V, h1, h2, h3, h5⟩ := h
 have hq := lt_of_block h1.row
 have hk := lt_of_block (h1.1.has (p := (kb, .cells row 129 (0, 0))) (by simp))
 have h4 := h1.1.more k hj
 refine ⟨row, ls, gs, vL, vC, vB, V, ⟨h4.sub (fun p hp => ?_), h1.2.1, fun p hp => ?_⟩, h2, fun p hp => ?_, fun p hp q hq => ?_⟩
 ·simp only [List.mem_append, List.mem_cons] at hp ⊢
  rcases hp with hp | hp | hp | hp | hp | hp
  ·exact .inr (.inl hp)
  ·exact .inr (.inr (.inl hp))
  ·exact .inr (.inr (.inr (.inl hp)))
  ·exact .inr (.inr (.inr (.inr (.inl hp))))
  ·exact .inl hp
  ·exact .inr (.inr (.inr (.inr (.inr hp))))
 ·simp only [List.mem_append, List.mem_cons] at hp
  rcases hp with hp | hp | hp | hp | hp
  ·exact h1.2.2 p (by simp [hp])
  ·exact h1.2.2 p (by simp [hp])
  ·exact h1.2.2 p (by simp [hp])
  ·have := (hj p hp).1; omega
  ·exact h1.2.2 p (by simp [hp])
 ·simp only [List.mem_append] at hp
  rcases hp with hp | hp | hp | hp
  ·exact h3 p (by simp [hp])
  ·exact h3 p (by simp [hp])
  ·have := (hj p hp).1; omega
  ·exact h3 p (by simp [hp])
 ·rcases List.mem_append.1 hq with hq | hq
  ·have := (hj q hq).1
   have : p.1 < W.heap.size := lt_of_block (h1.1.has (p := p) (by
    rcases List.mem_append.1 hp with hp | hp <;> simp [hp]))
   omega
  ·exact h5 p hp q hq
/-- a block beside is turned -/
theorem PQ.turn {lb : Nat} {o o' : Obj} (h : PQ w b T B D E qb T' L D' E' kb wb ((lb, o) :: K) W) (k : Keeps W W2 (fun x => x = lb)) (hb : W2.heap[lb]? = some o') (hne : ∀ p ∈ K, p.1 ≠ lb) : PQ w b T B D E qb T' L D' E' kb wb ((lb, o') :: K) W2 := by
 obtain ⟨row, ls, gs, vL, vC, vB, V, h1, h2, h3, h5⟩ := h
 have hq : lb ≠ qb := h1.2.2 (lb, o) (by simp)
 have hk : lb ≠ kb := h3 (lb, o) (by simp)
 have h4 := Rws.turn (h1.1.sub (K' := (lb, o) :: ((qb, .cells (dpRow b vL vC vB D E) 87 (0, 0)) :: (gs ++ ((kb, .cells row 129 (0, 0)) :: (ls ++ K))))) (fun p hp => by
  simp only [List.mem_append, List.mem_cons] at hp ⊢
  rcases hp with hp | hp | hp | hp | hp | hp
  ·exact .inr (.inr (.inr (.inr (.inl hp))))
  ·exact .inl hp
  ·exact .inr (.inl hp)
  ·exact .inr (.inr (.inl hp))
  ·exact .inr (.inr (.inr (.inl hp)))
  ·exact .inr (.inr (.inr (.inr (.inr hp)))))) k hb (fun p hp => by
  simp only [List.mem_append, List.mem_cons] at hp
  rcases hp with hp | hp | hp | hp | hp
  ·rw [hp]; exact fun e => hq e.symm
  ·exact h5 p (by simp [hp]) (lb, o) (by simp)
  ·rw [hp]; exact fun e => hk e.symm
  ·exact h5 p (by simp [hp]) (lb, o) (by simp)
  ·exact hne p hp)
 refine ⟨row, ls, gs, vL, vC, vB, V, ⟨h4.sub (fun p hp => ?_), h1.2.1, fun p hp => ?_⟩, h2, fun p hp => ?_, fun p hp q hq => ?_⟩
 ·simp only [List.mem_append, List.mem_cons] at hp ⊢
  rcases hp with hp | hp | hp | hp | hp | hp
  ·exact .inr (.inl hp)
  ·exact .inr (.inr (.inl hp))
  ·exact .inr (.inr (.inr (.inl hp)))
  ·exact .inr (.inr (.inr (.inr (.inl hp))))
  ·exact .inl hp
  ·exact .inr (.inr (.inr (.inr (.inr hp))))
 ·simp only [List.mem_append, List.mem_cons] at hp
  rcases hp with hp | hp | hp | hp | hp
  ·exact h1.2.2 p (by simp [hp])
  ·exact h1.2.2 p (by simp [hp])
  ·exact h1.2.2 p (by simp [hp])
  ·rw [hp]; exact hq
  ·exact h1.2.2 p (by simp [hp])
 ·simp only [List.mem_append, List.mem_cons] at hp
  rcases hp with hp | hp | hp | hp
  ·exact h3 p (by simp [hp])
  ·exact h3 p (by simp [hp])
  ·rw [hp]; exact hk
  ·exact h3 p (by simp [hp])
 ·rcases List.mem_cons.1 hq with hq | hq
  ·rw [hq]; exact h5 p hp (lb, o) (by simp)
  ·exact h5 p hp q (List.mem_cons_of_mem _ hq)
/-- the program's packer alone -/
theorem PQ.ks (h : PQ w b T B D E qb T' L D' E' kb wb K W) : ∃ ls, KS w b T' wb E' D' L none kb ls K W := by
 obtain ⟨row, ls, gs, vL, vC, vB, V, h1, h2, h3, h5⟩ := h
 exact ⟨ls, row, h1.1.fs.sub (fun p hp => by
  simp only [List.mem_cons, List.mem_append] at hp
  rcases hp with hp | hp | hp <;> simp [hp]), fun p hp => h3 p (List.mem_append_right _ hp), h2⟩
/-- a call that turns the program's packer -/
theorem PQ.call {f : FuncId} {args : Array Value} {R : Ending → Prop} {T2 : List Tk} {L2 : Bits} {D2 E2 : Nat} (h : PQ w b T B D E qb T' L D' E' kb wb K W)
  (hc : ∀ ls ks, (∀ p ∈ K, p ∈ ks) → KS w b T' wb E' D' L none kb ls ks W → Calls Tryz.prog f args W fun e w' => R e ∧ ∃ wb2 ls2, KS w b T2 wb2 E2 D2 L2 none kb ls2 ks w' ∧ ∀ p ∈ ls2, p ∈ ls ∨ W.heap.size ≤ p.1) :
  Calls Tryz.prog f args W fun e w' => R e ∧ ∃ wb2, PQ w b T B D E qb T2 L2 D2 E2 kb wb2 K w' := by
 obtain ⟨row, ls, gs, vL, vC, vB, V, h1, h2, h3, h5⟩ := h
 have hq := lt_of_block h1.row
 have hkb := lt_of_block (h1.1.has (p := (kb, .cells row 129 (0, 0))) (by simp))
 have hqk : kb ≠ qb := h1.2.2 (kb, .cells row 129 (0, 0)) (by simp)
 refine (Rws.call2 (α := Nat × Array Value × List (Nat × Obj)) (P := fun x e w' => R e ∧ PackRow b T2 x.1 E2 D2 x.2.1 x.2.2 ∧ ∀ p ∈ x.2.2, p ∈ ls ∨ W.heap.size ≤ p.1) (wr' := fun x => some (x.1, L2)) (rd' := fun _ => none)
  (F := fun x => (qb, .cells (dpRow b vL vC vB D E) 87 (0, 0)) :: (gs ++ ((kb, .cells x.2.1 129 (0, 0)) :: (x.2.2 ++ K)))) h1.1 (fun Kx hx hn => ?_)).mono ?_
 ·obtain ⟨ks, hks⟩ : ∃ ks, Kx ++ ((qb, Obj.cells (dpRow b vL vC vB D E) 87 (0, 0)) :: (gs ++ K)) = ks := ⟨_, rfl⟩
  have hK : KS w b T' wb E' D' L none kb ls ks W := by
   refine ⟨row, hx.sub (fun p hp => ?_), fun p hp => ?_, h2⟩
   ·rw [← hks] at hp
    simp only [List.mem_append, List.mem_cons] at hp ⊢
    rcases hp with hp | hp | hp | hp | hp | hp
    ·exact .inr (.inr (.inr (.inl hp)))
    ·exact .inr (.inr (.inr (.inr (.inl hp))))
    ·exact .inl hp
    ·exact .inr (.inl hp)
    ·exact .inr (.inr (.inl hp))
    ·exact .inr (.inr (.inr (.inr (.inr hp))))
   ·rw [← hks] at hp
    simp only [List.mem_append, List.mem_cons] at hp
    rcases hp with hp | hp | hp | hp | hp
    ·exact h3 p (by simp [hp])
    ·exact hn p hp (kb, .cells row 129 (0, 0)) (by simp)
    ·rw [hp]; exact fun e => hqk e.symm
    ·exact h3 p (by simp [hp])
    ·exact h3 p (by simp [hp])
  refine (hc ls ks (fun p hp => by rw [← hks]; simp [hp]) hK).mono ?_
  rintro e w' ⟨hR, wb2, ls2, ⟨row2, f2, n2, r2⟩, hl2⟩
  refine ⟨(wb2, row2, ls2), ⟨hR, r2, hl2⟩, fun p hp => ?_, f2.sub (fun p hp => ?_)⟩
  ·simp only [List.mem_append, List.mem_cons] at hp
   rcases hp with hp | hp | hp | hp | hp
   ·exact .inl ⟨_, by rw [hp]; exact List.mem_cons_self ..⟩
   ·exact .inl ⟨p.2, by simp [hp]⟩
   ·exact .inl ⟨.cells row 129 (0, 0), by rw [hp]; simp⟩
   ·rcases hl2 p hp with hp | hp
    ·exact .inl ⟨p.2, by simp [hp]⟩
    ·exact .inr hp
   ·exact .inl ⟨p.2, by simp [hp]⟩
  ·rw [← hks]
   simp only [List.mem_append, List.mem_cons] at hp ⊢
   rcases hp with hp | hp | hp | hp | hp | hp
   ·exact .inr (.inr (.inl hp))
   ·exact .inr (.inr (.inr (.inl hp)))
   ·exact .inr (.inr (.inr (.inr (.inl hp))))
   ·exact .inl hp
   ·exact .inr (.inl hp)
   ·exact .inr (.inr (.inr (.inr (.inr hp))))
 ·rintro e w' ⟨⟨wb2, row2, ls2⟩, ⟨hR, r2, hl2⟩, _, h4⟩
  refine ⟨hR, wb2, row2, ls2, gs, vL, vC, vB, V, ⟨h4, h1.2.1, fun p hp => ?_⟩, r2, fun p hp => ?_, fun p hp q hq => ?_⟩
  ·simp only [List.mem_append, List.mem_cons] at hp
   rcases hp with hp | hp | hp | hp
   ·exact h1.2.2 p (by simp [hp])
   ·rw [hp]; exact hqk
   ·rcases hl2 p hp with hp | hp
    ·exact h1.2.2 p (by simp [hp])
    ·omega
   ·exact h1.2.2 p (by simp [hp])
  ·simp only [List.mem_append] at hp
   rcases hp with hp | hp | hp
   ·exact h3 p (by simp [hp])
   ·rcases hl2 p hp with hp | hp
    ·exact h3 p (by simp [hp])
    ·omega
   ·exact h3 p (by simp [hp])
  ·rcases List.mem_append.1 hp with hp | hp
   ·exact h5 p (by simp [hp]) q hq
   ·rcases hl2 p hp with hp | hp
    ·exact h5 p (by simp [hp]) q hq
    ·have := lt_of_block (h1.1.has (p := q) (by simp [hq]))
     omega
/-- Add on both sides -/
theorem PQ.add (h : PQ w b T B D E qb T' L D' E' kb wb K W) {a : Option Addr} {succ : List Nat} {cap : Nat} (hG : GL w) (hb : b.p.ok) (hdp : b.depth ≤ 16) (hx : T'.length < 65536) (hs : Ris succ) (hT : TOk T') (hc : succ.length ≤ cap) (hA : Seen w K a succ) (hE : E' + succ.length ≤ 1048576) (hl : L.length + (addB b T' succ).length ≤ 134217728) :
  Calls Tryz.prog 37 #[.pointer (some ⟨kb, 0, none⟩), .slice a succ.length cap] W fun e w' => e = .returned (.tuple #[.int .i64 ((pickB b T' succ).2.1 : Int), .int .i64 ((pickB b T' succ).1 : Int), .int .i64 0]) ∧ ∃ wb2, PQ w b T B D E qb (T' ++ [putB b T' succ]) (L ++ addB b T' succ) D' (E' + succ.length) kb wb2 K w' :=
 h.call (fun ls ks hk hK => (add_yes hK hG hb hdp hx hs hT hc (hA.more hk) hE hl).mono (fun e w' h => by
  obtain ⟨rfl, ls', h1, h2⟩ := h
  exact ⟨rfl, wb, ls', h1, h2⟩))
theorem PQ.dadd (h : PQ w b T B D E qb T' L D' E' kb wb K W) {a : Option Addr} {succ : List Nat} {cap : Nat} (hb : b.p.ok) (hdp : b.depth ≤ 16) (hx : T.length < 65536) (hT : TOk T) (hc : succ.length ≤ cap) (hs : Ris succ) (hA : LV w a succ) (hE : E + succ.length ≤ 1048576) (hl : B.length + (addB b T succ).length ≤ 1000000000) :
  Calls Tryz.prog 38 #[.pointer (some ⟨qb, 0, none⟩), .slice a succ.length cap] W fun e w' => e = .returned (.tuple #[.int .i64 ((pickB b T succ).2.1 : Int), .int .i64 ((pickB b T succ).1 : Int), .int .i64 0]) ∧ PQ w b (T ++ [putB b T succ]) (B ++ addB b T succ) D (E + succ.length) qb T' L D' E' kb wb K w' := by
 obtain ⟨row, ls, gs, vL, vC, vB, V, h1, h2, h3, h5⟩ := h
 refine (dadd_yes h1 hb hdp hx hT a succ cap hc hs hA hE hl).mono ?_
 rintro e w' ⟨rfl, gs2, vL2, vC2, vB2, V2, h4, h6⟩
 refine ⟨rfl, row, ls, gs2, vL2, vC2, vB2, V2, h4, h2, fun p hp => ?_, fun p hp q hq => ?_⟩
 ·rcases List.mem_append.1 hp with hp | hp
  ·rcases h6 p hp with hp | hp
   ·exact h3 p (List.mem_append_left _ hp)
   ·exact hp (kb, .cells row 129 (0, 0)) (List.mem_cons_self ..)
  ·exact h3 p (List.mem_append_right _ hp)
 ·rcases List.mem_append.1 hp with hp | hp
  ·rcases h6 p hp with hp | hp
   ·exact h5 p (List.mem_append_left _ hp) q hq
   ·exact hp q (by simp [hq])
  ·exact h5 p (List.mem_append_right _ hp) q hq
/-- what the document's packer shows -/
theorem PQ.dp (h : PQ w b T B D E qb T' L D' E' kb wb K W) : ∃ gs vL vC vB V ks, DP w (some (wb, L)) none b T B D E qb gs vL vC vB V [] ks W := by
 obtain ⟨row, ls, gs, vL, vC, vB, V, h1, h2, h3, h5⟩ := h
 exact ⟨gs, vL, vC, vB, V, _, h1⟩
/-- both packers are new -/
theorem PQ.start (h : KS w b [] wb 0 0 [] none kb [] K W) : PQ w b [] [] 0 0 W.heap.size [] [] 0 0 kb wb K (W.alloc (.cells (dpRow b (.slice none 0 0) (.slice none 0 0) (.slice none 0 0) 0 0) 87)) := by
 obtain ⟨row, h1, h2, h3⟩ := h
 have h0 : Rws w (some (wb, [])) none [] ((kb, .cells row 129 (0, 0)) :: ([] ++ K)) W := h1
 have h4 := h0.add (dpRow b (.slice none 0 0) (.slice none 0 0) (.slice none 0 0) 0 0) 87
 refine ⟨row, [], [], .slice none 0 0, .slice none 0 0, .slice none 0 0, [], ⟨((h4.lift (T := 4)).lift (T := 3)).lift (T := 34), GRow.nil _, fun p hp => ?_⟩, h3, fun p hp => h2 p (by simpa using hp), fun p hp => by simp at hp⟩
 have := lt_of_block (h1.row (b := p.1) (o := p.2) hp)
 omega
end
end Go.Proofs.YtflnpcgnenhogaaGreatDoor.ls
namespace Go.Proofs.YtflnpcgnenhogaaGreatDoor.ls
open Go.RowKit Go.Proofs.YtflnpcgnenhogaaGreatDoor.own Go.Proofs.YtflnpcgnenhogaaGreatDoor.bit

set_option maxRecDepth 100000 in
theorem dadd_no {b : Bp} {T : List Tk} {qb : Nat} {aL : Option Addr} {dL : Nat} {aC : Option Addr} {dC : Nat} {vB : Value} {E : Nat} (W : World) (hv : DPv b T qb aL dL aC dC vB E W) (hx : T.length < 65536) (a : Option Addr) (succ : List Nat) (cap : Nat) (hA : LV W a succ) (hE : E ≤ 1048576) (hno : Ris succ → 1048576 < E + succ.length) :
  Calls Tryz.prog 38 #[.pointer (some ⟨qb, 0, none⟩), .slice a succ.length cap] W fun e w' => ∃ ec : Int, e = .returned (.tuple #[.int .i64 0, .int .i64 0, .int .i64 ec]) ∧ (Ris succ → ec = 14) ∧ (¬ Ris succ → ec = 1) ∧ Below W.heap.size W w' := by
 have HV := Lib.hid (fun W' (k : Below W.heap.size W W') => hv.next k)
 have SU := Lib.hid (dsucc_any W a succ cap hA)
 have hl9 := hA.1
 have HNO := Lib.hid hno
 obtain ⟨m, hm⟩ : ∃ z, succ.length = z := ⟨_, rfl⟩
 have HM := Lib.hid hm
 obtain ⟨nt, hnt⟩ : ∃ z, T.length = z := ⟨_, rfl⟩
 have p5 : W.cell? ⟨qb, 5, none⟩ = some (.slice aL nt dL) := by rw [← hnt]; exact hv.cL
 rw [hm] at SU hl9 ⊢
 rw [hnt] at hx
 have i1 : decide ((65536 : Int) ≤ (nt : Int)) = false := decide_eq_false (by omega)
 have i1n : decide (65536 ≤ nt) = false := decide_eq_false (by omega)
 clear hv hA hno hm hnt
 go_enter Tryz.func38, Tryz.ntmps38
 go_wp2_with fail
 with_reducible refine SU.out.mono ?_
 rintro e w1 ⟨b1, rfl, hb1, k1⟩
 have K1 := Lib.hid k1
 have p9 := (HV.out w1 k1).cE
 clear k1 p5
 cases b1 with
 | false =>
  have hr : ¬ Ris succ := fun h => by have := hb1.2 h; cases this
  go_wp2_with fail
  exact bodyPost_ret (v := .tuple #[.int .i64 0, .int .i64 0, .int .i64 1]) (by simp [results, Tryz.results38, go_sem]) rfl ⟨1, rfl, fun h => absurd h hr, fun _ => rfl, K1.out⟩
 | true =>
  have hr : Ris succ := hb1.1 rfl
  have hs9 := hr.len
  rw [HM.out] at hs9
  have hov := HNO.out hr
  rw [HM.out] at hov
  have i2 : decide ((1048576 : Int) < (E : Int) + (m : Int)) = true := decide_eq_true (by omega)
  have HR := Lib.hid hr
  clear hb1 hr
  go_wp2_with fail
  exact bodyPost_ret (v := .tuple #[.int .i64 0, .int .i64 0, .int .i64 14]) (by simp [results, Tryz.results38, go_sem]) rfl ⟨14, rfl, fun _ => rfl, fun h => absurd HR.out h, K1.out⟩
end Go.Proofs.YtflnpcgnenhogaaGreatDoor.ls
namespace Go.Proofs.YtflnpcgnenhogaaGreatDoor.ls
open Go.RowKit Go.Proofs.YtflnpcgnenhogaaGreatDoor.own Go.Proofs.YtflnpcgnenhogaaGreatDoor.bit

theorem PQ.dno {w W : World} {b : Bp} {T T' : List Tk} {B L : Bits} {D E qb D' E' kb wb : Nat} {K : List (Nat × Obj)} (h : PQ w b T B D E qb T' L D' E' kb wb K W) (hx : T.length < 65536) (a : Option Addr) (succ : List Nat) (cap : Nat) (hA : LV w a succ) (hE : E ≤ 1048576) (hno : Ris succ → 1048576 < E + succ.length) (ec : Int) (h14 : Ris succ → ec = 14) (h1 : ¬ Ris succ → ec = 1) :
  Calls Tryz.prog 38 #[.pointer (some ⟨qb, 0, none⟩), .slice a succ.length cap] W fun e w' => e = .returned (.tuple #[.int .i64 0, .int .i64 0, .int .i64 ec]) ∧ Below W.heap.size W w' := by
 obtain ⟨gs, vL, vC, vB, V, ks, hd⟩ := h.dp
 obtain ⟨aL, dL, aC, dC, -, -, -, -, hv⟩ := hd.view (by omega)
 refine (dadd_no W hv hx a succ cap (hA.below h.below) hE hno).mono ?_
 rintro e w' ⟨ec', rfl, e1, e2, k⟩
 have : ec' = ec := by
  by_cases hr : Ris succ
  ·rw [e1 hr, h14 hr]
  ·rw [e2 hr, h1 hr]
 rw [this]
 exact ⟨rfl, k⟩
/-- what stands between -/
structure BI (T : List Tk) (B : Bits) (D E i : Nat) : Prop where
 t : TOk T
 n : T.length ≤ i
 e : E ≤ 1048576
 l : B.length ≤ 120 * T.length + 80 * E
 d : D ≤ B.length
theorem step_both {w W : World} {b : Bp} {T : List Tk} {B : Bits} {D E qb kb wb i : Nat} {K : List (Nat × Obj)} (h : PQ w b T B D E qb T (B.drop D) D E kb wb K W) (hI : BI T B D E i) (hi : i < 100) (hG : GL w) (hb : b.p.ok) (hdp : b.depth ≤ 16) (a a' : Option Addr) (succ : List Nat) (cap cap' : Nat) (hc : succ.length ≤ cap) (hc' : succ.length ≤ cap') (hA : Seen w K a succ) (hA' : LV w a' succ) (hlen : succ.length ≤ 35184372088832) :
  ∃ (r nb ec : Int) (T2 : List Tk) (B2 : Bits) (E2 : Nat), (ec ≠ 0 → nb = 0) ∧
   (Calls Tryz.prog 37 #[.pointer (some ⟨kb, 0, none⟩), .slice a succ.length cap] W fun e w' => e = .returned (.tuple #[.int .i64 r, .int .i64 nb, .int .i64 ec]) ∧ ∃ wb2, PQ w b T B D E qb T2 (B2.drop D) D E2 kb wb2 K w') ∧
   (∀ wb2 W', PQ w b T B D E qb T2 (B2.drop D) D E2 kb wb2 K W' → Calls Tryz.prog 38 #[.pointer (some ⟨qb, 0, none⟩), .slice a' succ.length cap'] W' fun e w' => e = .returned (.tuple #[.int .i64 r, .int .i64 nb, .int .i64 ec]) ∧ PQ w b T2 B2 D E2 qb T2 (B2.drop D) D E2 kb wb2 K w') ∧ BI T2 B2 D E2 (i + 1) ∧ B2.take D = B.take D := by
 obtain ⟨h1, h2, h3, h4, h5⟩ := hI
 by_cases hs : Ris succ
 ·by_cases ho : E + succ.length ≤ 1048576
  ·have hal := addB_len (T := T) (succ := succ) hb (by omega) hs
   have ed : (B ++ addB b T succ).drop D = B.drop D ++ addB b T succ := List.drop_append_of_le_length h5
   have hTO : TOk (T ++ [putB b T succ]) := fun t ht => by
    rcases List.mem_append.1 ht with ht | ht
    ·exact h1 t ht
    ·rw [List.mem_singleton.1 ht]; exact hs
   refine ⟨((pickB b T succ).2.1 : Int), ((pickB b T succ).1 : Int), 0, T ++ [putB b T succ], B ++ addB b T succ, E + succ.length, fun h => absurd rfl h, ?_, fun wb2 W' h' => ?_, ⟨hTO, by rw [List.length_append, List.length_singleton]; omega, ho, ?_, by rw [List.length_append]; omega⟩, List.take_append_of_le_length h5⟩
   ·rw [ed]
    exact h.add hG hb hdp (by omega) hs h1 hc hA ho (by rw [List.length_drop]; omega)
   ·exact h'.dadd hb hdp (by omega) h1 hc' hs hA' ho (by omega)
   ·rw [List.length_append, List.length_append, List.length_singleton]
    omega
  ·refine ⟨0, 0, 14, T, B, E, fun _ => rfl, ?_, fun wb2 W' h' => ?_, ⟨h1, by omega, h3, h4, h5⟩, rfl⟩
   ·obtain ⟨ls, hk⟩ := h.ks
    refine (add_over hk hG hb (by omega) hs hc hA h3 (by omega)).mono ?_
    rintro e w' ⟨rfl, k⟩
    exact ⟨rfl, wb, h.next k⟩
   ·refine (h'.dno (by omega) a' succ cap' hA' h3 (fun _ => by omega) 14 (fun _ => rfl) (fun h => absurd hs h)).mono ?_
    rintro e w' ⟨rfl, k⟩
    exact ⟨rfl, h'.next k⟩
 ·refine ⟨0, 0, 1, T, B, E, fun _ => rfl, ?_, fun wb2 W' h' => ?_, ⟨h1, by omega, h3, h4, h5⟩, rfl⟩
  ·obtain ⟨ls, hk⟩ := h.ks
   refine (add_bad hk hG hb (by omega) hs hc hA h3 hlen).mono ?_
   rintro e w' ⟨rfl, k⟩
   exact ⟨rfl, wb, h.next k⟩
  ·refine (h'.dno (by omega) a' succ cap' hA' h3 (fun h => absurd h hs) 1 (fun h => absurd h hs) (fun _ => rfl)).mono ?_
   rintro e w' ⟨rfl, k⟩
   exact ⟨rfl, h'.next k⟩
end Go.Proofs.YtflnpcgnenhogaaGreatDoor.ls
namespace Go.Proofs.YtflnpcgnenhogaaGreatDoor.ls
open Go.RowKit Go.Proofs.YtflnpcgnenhogaaGreatDoor.own Go.Proofs.YtflnpcgnenhogaaGreatDoor.bit

set_option maxRecDepth 100000 in
theorem bnew_no (win dep itv zet cap : Int) (hb : ¬ BpOk win dep itv zet cap) (w : World) : Calls Tryz.prog 36 #[bpV win dep itv zet cap] w fun e w' => e = .returned (.tuple #[.pointer none, .int .i64 1]) ∧ Below w.heap.size w w' := by
 have CK := Lib.hid (fun W' => bcheck_any win dep itv zet cap W')
 rw [if_neg hb] at CK
 clear hb
 unfold bpV at CK ⊢
 go_enter Tryz.func36, Tryz.ntmps36
 go_wp2_with fail
 have k1 : Below w.heap.size w (w.alloc (.cells #[.int .i64 win, .int .i64 dep, .int .i64 itv, .int .i64 zet, .int .i64 cap] 61)) := (Below.refl _ _).alloc (Nat.le_refl _) _
 with_reducible refine (CK.out _).mono ?_
 rintro e w2 ⟨rfl, k2⟩
 have K2 := Lib.hid (k1.trans (k2.mono k1.size))
 clear k1 k2
 go_wp2_with fail
 go_ret2
 exact ⟨rfl, K2.out⟩
end Go.Proofs.YtflnpcgnenhogaaGreatDoor.ls
namespace Go.Proofs.YtflnpcgnenhogaaGreatDoor.ls
open Go.RowKit Go.Proofs.YtflnpcgnenhogaaGreatDoor.own Go.Proofs.YtflnpcgnenhogaaGreatDoor.bit

/-- a reader, the ring of the last lists, its lists, rows beside -/
def NX (w : World) (wr : Option (Nat × Bits)) (T : List Tk) (rb : Nat) (s : ByteArray) (a lb : Nat) (ls ks : List (Nat × Obj)) (W : World) : Prop :=
 ∃ row, FS w wr (some (rb, s, a)) ((lb, .cells row 126 (0, 0)) :: (ls ++ ks)) W ∧ (∀ p ∈ ls ++ ks, p.1 ≠ lb) ∧ row.size = 35 ∧ Ring T row 0 ls
end Go.Proofs.YtflnpcgnenhogaaGreatDoor.ls
namespace Go.Proofs.YtflnpcgnenhogaaGreatDoor.ls
open Go.RowKit Go.Proofs.YtflnpcgnenhogaaGreatDoor.own Go.Proofs.YtflnpcgnenhogaaGreatDoor.bit

/-- what a reading stands on: the reader, the ring, the graph's row, the row of places, rows beside -/
structure DR (w : World) (wr : Option (Nat × Bits)) (T : List Tk) (rb : Nat) (s : ByteArray) (a lb : Nat) (ls gs kg ka ks : List (Nat × Obj)) (vg : Value) (V : List Value) (G : List (List Nat)) (va : Value) (A : List Nat) (N : Nat) (W : World) : Prop where
 nx : NX w wr T rb s a lb ls (kg ++ (ka ++ (gs ++ ks))) W
 hkg : KA kg vg
 hka : KA ka va
 og : W.ownsRow 0 34 1 vg V.length V
 oa : W.ownsRow 0 97 1 va A.length (u64V A)
 rows : GRow gs V G
 offg : Off (ka ++ (gs ++ (ls ++ ks))) vg
 offa : Off (kg ++ (gs ++ (ls ++ ks))) va
 new : ∀ p ∈ kg ++ (ka ++ gs), N ≤ p.1
section
variable {w W W' W2 : World} {wr : Option (Nat × Bits)} {T T' : List Tk} {rb : Nat} {s : ByteArray} {a a' lb : Nat} {ls gs kg ka ks kv : List (Nat × Obj)} {vg : Value} {V : List Value} {G : List (List Nat)} {va : Value} {A : List Nat} {N : Nat}
end
end Go.Proofs.YtflnpcgnenhogaaGreatDoor.ls
namespace Go.Proofs.YtflnpcgnenhogaaGreatDoor.ls
open Go.RowKit Go.Proofs.YtflnpcgnenhogaaGreatDoor.own Go.Proofs.YtflnpcgnenhogaaGreatDoor.bit

theorem bp_nat {pw pd pi pz pc : Int} (h : BpOk pw pd pi pz pc) : ∃ b : Bp, b.p.ok ∧ pw = (b.p.win : Int) ∧ pd = (b.depth : Int) ∧ pi = (b.p.itv : Int) ∧ pz = (b.p.zet : Int) ∧ pc = (b.cap : Int) := by
 obtain ⟨⟨h1, h2, h3, h4, h5⟩, h6, h7, h8, h9⟩ := h
 refine ⟨⟨⟨pw.toNat, pi.toNat, pz.toNat⟩, pd.toNat, pc.toNat⟩, ?_, ?_, ?_, ?_, ?_, ?_⟩
 ·unfold Pr.ok
  dsimp only
  omega
 all_goals dsimp only; omega
end Go.Proofs.YtflnpcgnenhogaaGreatDoor.ls
