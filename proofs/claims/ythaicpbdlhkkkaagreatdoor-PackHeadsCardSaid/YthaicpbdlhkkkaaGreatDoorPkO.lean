/- pack: the program's ReadHead. -/
import Derived.Test.YthaicpbdlhkkkaaGreatDoorPkN
import Derived.Test.YthaicpbdlhkkkaaGreatDoorShelf
namespace Go.Proofs.YthaicpbdlhkkkaaGreatDoor.pk
open Go.RowKit Go.Proofs.YthaicpbdlhkkkaaGreatDoor.own Go.Proofs.YthaicpbdlhkkkaaGreatDoor.bit Go.Proofs.YthaicpbdlhkkkaaGreatDoor.ef

theorem cut_yes (s : ByteArray) (h : s.extract 0 4 = markT) (W : World) :
    Calls Tryz.prog 21 #[.string s, .string ⟨#[119, 116, 108, 49]⟩] W fun e w' => e = .returned (.tuple #[.string (restT s), .bool true]) ∧ W = w' := by
  refine (Tryz.strings_CutPrefix s ⟨#[119, 116, 108, 49]⟩ W).mono ?_
  rintro e w' ⟨rfl, rfl⟩
  have hp := mark_has.2 h
  refine ⟨?_, rfl⟩
  have e1 : Lib.hasPrefix s.data.toList (ByteArray.mk #[119, 116, 108, 49]).data.toList = true := hp
  unfold Lib.trimPrefix
  rw [e1]
  rfl
theorem cut_no (s : ByteArray) (h : ¬ s.extract 0 4 = markT) (W : World) :
    Calls Tryz.prog 21 #[.string s, .string ⟨#[119, 116, 108, 49]⟩] W fun e w' => e = .returned (.tuple #[.string s, .bool false]) ∧ W = w' := by
  refine (Tryz.strings_CutPrefix s ⟨#[119, 116, 108, 49]⟩ W).mono ?_
  rintro e w' ⟨rfl, rfl⟩
  have hp : Lib.hasPrefix s.data.toList [119, 116, 108, 49] = false := by
    cases hc : Lib.hasPrefix s.data.toList [119, 116, 108, 49]
    · rfl
    · exact absurd (mark_has.1 hc) h
  refine ⟨?_, rfl⟩
  have e1 : Lib.hasPrefix s.data.toList (ByteArray.mk #[119, 116, 108, 49]).data.toList = false := hp
  unfold Lib.trimPrefix
  rw [e1]
  rfl

/-- the rows at the beginning -/
theorem RT.start {w w1 w2 : World} {x' : Nat → Nat} {rb : Nat} {r : ByteArray} {row : Array Value} {T : TypeId} (hw1 : w1 = w.alloc (.cells row T)) (f2 : Fr (paint (fun _ => 100) w.heap.size 49) x' (fun e => e = 0) w1 w2) (hr : RdC x' 0 w2 rb r 0) :
    RT w rb (w2.heap.size + 1) r 0 false [(w2.heap.size, .cells #[.pointer (some ⟨rb, 0, none⟩)] 56 (0, 0)), (w.heap.size, .cells row T (0, 0))] ((w2.alloc (.cells #[.pointer (some ⟨rb, 0, none⟩)] 56)).alloc (.cells #[.bool false] 4)) := by
  have k1 : Below w.heap.size w w1 := by rw [hw1]; exact (Below.refl _ _).alloc (Nat.le_refl _) _
  have f1 : Fr (fun _ => 100) (paint (fun _ => 100) w.heap.size 49) (fun c => c = 49) w w1 := Fr.of_below k1 rfl
  have q1 : w1.heap[w.heap.size]? = some (.cells row T (0, 0)) := by rw [hw1]; exact heap_alloc_new w _
  obtain ⟨W3, hW3⟩ : ∃ W, w2.alloc (.cells #[.pointer (some ⟨rb, 0, none⟩)] 56) = W := ⟨_, rfl⟩
  have k3 : Below w2.heap.size w2 W3 := by rw [← hW3]; exact (Below.refl _ _).alloc (Nat.le_refl _) _
  have f3 : Fr x' (paint x' w2.heap.size 49) (fun c => c = 49) w2 W3 := Fr.of_below k3 rfl
  have q3 : W3.heap[w2.heap.size]? = some (.cells #[.pointer (some ⟨rb, 0, none⟩)] 56 (0, 0)) := by rw [← hW3]; exact heap_alloc_new w2 _
  have z3 : W3.heap.size = w2.heap.size + 1 := by rw [← hW3]; simp
  rw [hW3]
  obtain ⟨W4, hW4⟩ : ∃ W, W3.alloc (.cells #[.bool false] 4) = W := ⟨_, rfl⟩
  have k4 : Below W3.heap.size W3 W4 := by rw [← hW4]; exact (Below.refl _ _).alloc (Nat.le_refl _) _
  have f4 : Fr (paint x' w2.heap.size 49) (paint (paint x' w2.heap.size 49) W3.heap.size 48) (fun c => c = 48) W3 W4 := Fr.of_below k4 rfl
  have q4 : W4.heap[W3.heap.size]? = some (.cells #[.bool false] 4 (0, 0)) := by rw [← hW4]; exact heap_alloc_new W3 _
  rw [hW4, ← z3]
  obtain ⟨hr1, hr2, hr3, hr4⟩ := hr
  have lr := lt_of_block hr1
  have lr3 : rb < W3.heap.size := by omega
  have l1 := lt_of_block q1
  have l12 : w.heap.size < w2.heap.size := Nat.lt_of_lt_of_le l1 f2.size
  have p1 : x' w.heap.size = 49 := (f2.col _ l1).trans (paint_new (Nat.le_refl _))
  have q2 : w2.heap[w.heap.size]? = some (.cells row T (0, 0)) := (f2.old _ l1 (by show ¬ paint (fun _ => 100) w.heap.size 49 w.heap.size = 0; rw [paint_new (Nat.le_refl _)]; decide)).trans q1
  refine ⟨_, (((f1.mono ?_).trans (f2.mono ?_)).trans (f3.mono ?_)).trans (f4.mono ?_), ⟨(k4.block _ lr3).trans ((k3.block _ lr).trans hr1), (paint_old lr3).trans ((paint_old lr).trans hr2), hr3, hr4⟩, ⟨paint_new (Nat.le_refl _), q4⟩, ?_⟩
  · intro c hc; subst hc; decide
  · intro c hc; show c < 50; omega
  · intro c hc; subst hc; decide
  · intro c hc; subst hc; decide
  · intro p hp
    rcases List.mem_cons.1 hp with rfl | hp
    · exact ⟨(paint_old (by omega)).trans (paint_new (Nat.le_refl _)), (k4.block _ (by omega)).trans q3⟩
    · rcases List.mem_cons.1 hp with rfl | hp
      · refine ⟨(paint_old (by show w.heap.size < _; omega)).trans ((paint_old l12).trans p1), (k4.block _ (by show w.heap.size < _; omega)).trans ((k3.block _ l12).trans q2)⟩
      · cases hp

theorem take4 (w0 : World) (pb rb bb : Nat) (r : ByteArray) (p q m : Nat) (bad bad' : Bool) (ks : List (Nat × Obj)) (hq : q = p + 4) (hm : fld r p 4 % 268435456 = m) (hb : (bad || decide (134217728 < fld r p 4)) = bad') (hpk : q ≤ r.size) (W : World)
    (h : RT w0 rb bb r (8 * p) bad ks W) (hp : (pb, .cells #[.pointer (some ⟨rb, 0, none⟩)] 56 (0, 0)) ∈ ks) :
    Calls Tryz.prog 23 #[.int .i64 32, .pointer (some ⟨pb, 0, none⟩), .pointer (some ⟨bb, 0, none⟩)] W fun e w' =>
      e = .returned (.int .i64 (m : Int)) ∧ RT w0 rb bb r (8 * q) bad' ks w' := by
  subst hq hm hb
  exact take_any w0 pb rb bb r p 4 bad ks (by decide) hpk W h hp
theorem take1 (w0 : World) (pb rb bb : Nat) (r : ByteArray) (p q m : Nat) (bad bad' : Bool) (ks : List (Nat × Obj)) (hq : q = p + 1) (hm : fld r p 1 % 268435456 = m) (hb : (bad || decide (134217728 < fld r p 1)) = bad') (hpk : q ≤ r.size) (W : World)
    (h : RT w0 rb bb r (8 * p) bad ks W) (hp : (pb, .cells #[.pointer (some ⟨rb, 0, none⟩)] 56 (0, 0)) ∈ ks) :
    Calls Tryz.prog 23 #[.int .i64 8, .pointer (some ⟨pb, 0, none⟩), .pointer (some ⟨bb, 0, none⟩)] W fun e w' =>
      e = .returned (.int .i64 (m : Int)) ∧ RT w0 rb bb r (8 * q) bad' ks w' := by
  subst hq hm hb
  exact take_any w0 pb rb bb r p 1 bad ks (by decide) hpk W h hp
theorem take8 (w0 : World) (pb rb bb : Nat) (r : ByteArray) (p q m : Nat) (bad bad' : Bool) (ks : List (Nat × Obj)) (hq : q = p + 8) (hm : fld r p 8 % 268435456 = m) (hb : (bad || decide (134217728 < fld r p 8)) = bad') (hpk : q ≤ r.size) (W : World)
    (h : RT w0 rb bb r (8 * p) bad ks W) (hp : (pb, .cells #[.pointer (some ⟨rb, 0, none⟩)] 56 (0, 0)) ∈ ks) :
    Calls Tryz.prog 23 #[.int .i64 64, .pointer (some ⟨pb, 0, none⟩), .pointer (some ⟨bb, 0, none⟩)] W fun e w' =>
      e = .returned (.int .i64 (m : Int)) ∧ RT w0 rb bb r (8 * q) bad' ks w' := by
  subst hq hm hb
  exact take_any w0 pb rb bb r p 8 bad ks (by decide) hpk W h hp

/-- what the program's ReadHead tells: a head that is read is the document's -/
theorem progHead {s r : ByteArray} {m1 m2 m3 m4 m5 m6 m7 m8 : Nat} {b1 b2 b3 b4 b5 b6 b7 b8 : Bool} (HF : ∀ p k, fld r p k = fld s (p + 4) k) (hs : 28 ≤ s.size) (hm : s.extract 0 4 = markT)
    (h1 : fld r 0 4 % 268435456 = m1) (h2 : fld r 4 4 % 268435456 = m2) (h3 : fld r 8 1 % 268435456 = m3) (h4 : fld r 9 1 % 268435456 = m4) (h5 : fld r 10 1 % 268435456 = m5) (h6 : fld r 11 1 % 268435456 = m6) (h7 : fld r 12 4 % 268435456 = m7) (h8 : fld r 16 8 % 268435456 = m8)
    (g1 : (false || decide (134217728 < fld r 0 4)) = b1) (g2 : (b1 || decide (134217728 < fld r 4 4)) = b2) (g3 : (b2 || decide (134217728 < fld r 8 1)) = b3) (g4 : (b3 || decide (134217728 < fld r 9 1)) = b4) (g5 : (b4 || decide (134217728 < fld r 10 1)) = b5) (g6 : (b5 || decide (134217728 < fld r 11 1)) = b6) (g7 : (b6 || decide (134217728 < fld r 12 4)) = b7) (g8 : (b7 || decide (134217728 < fld r 16 8)) = b8) :
    (readOk s → b8 = false ∧ headOk m1 m2 m3 m4 m5 m6 m7 m8) ∧ (b8 = false → headOk m1 m2 m3 m4 m5 m6 m7 m8 → readOk s ∧ headV m1 m2 m3 m4 m5 m6 m7 m8 = headS s) := by
  rw [HF 0 4] at h1 g1
  rw [HF 4 4] at h2 g2
  rw [HF 8 1] at h3 g3
  rw [HF 9 1] at h4 g4
  rw [HF 10 1] at h5 g5
  rw [HF 11 1] at h6 g6
  rw [HF 12 4] at h7 g7
  rw [HF 16 8] at h8 g8
  simp only [show 0 + 4 = 4 from rfl, show 4 + 4 = 8 from rfl, show 8 + 4 = 12 from rfl, show 9 + 4 = 13 from rfl, show 10 + 4 = 14 from rfl, show 11 + 4 = 15 from rfl, show 12 + 4 = 16 from rfl, show 16 + 4 = 20 from rfl] at *
  have f3 := fld_lt s 12 1
  have f4 := fld_lt s 13 1
  have f5 := fld_lt s 14 1
  have f6 := fld_lt s 15 1
  have hB : b8 = false ↔ fld s 4 4 ≤ 134217728 ∧ fld s 8 4 ≤ 134217728 ∧ fld s 16 4 ≤ 134217728 ∧ fld s 20 8 ≤ 134217728 := by
    rw [← g8, ← g7, ← g6, ← g5, ← g4, ← g3, ← g2, ← g1]
    simp only [Bool.or_eq_false_iff, decide_eq_false_iff_not]
    constructor
    · intro h
      omega
    · intro h
      refine ⟨⟨⟨⟨⟨⟨⟨⟨trivial, ?_⟩, ?_⟩, ?_⟩, ?_⟩, ?_⟩, ?_⟩, ?_⟩, ?_⟩ <;> omega
  constructor
  · intro h
    have h' := h.2.2
    have h'' := h'
    obtain ⟨n0, n1, mm0, mm1, bb0, bb1, -, d0, d1, c0, c1, -⟩ := h''
    refine ⟨hB.2 (by omega), ?_⟩
    rw [show m1 = fld s 4 4 by omega, show m2 = fld s 8 4 by omega, show m3 = fld s 12 1 by omega, show m4 = fld s 13 1 by omega, show m5 = fld s 14 1 by omega, show m6 = fld s 15 1 by omega, show m7 = fld s 16 4 by omega, show m8 = fld s 20 8 by omega]
    exact h'
  · intro hb h
    have hB := hB.1 hb
    have e1 : fld s 4 4 = m1 := by omega
    have e2 : fld s 8 4 = m2 := by omega
    have e3 : fld s 12 1 = m3 := by omega
    have e4 : fld s 13 1 = m4 := by omega
    have e5 : fld s 14 1 = m5 := by omega
    have e6 : fld s 15 1 = m6 := by omega
    have e7 : fld s 16 4 = m7 := by omega
    have e8 : fld s 20 8 = m8 := by omega
    unfold readOk headS
    rw [e1, e2, e3, e4, e5, e6, e7, e8]
    exact ⟨⟨hs, hm, h⟩, rfl⟩

set_option maxRecDepth 100000 in
set_option maxHeartbeats 3200000 in
theorem read_any (s : ByteArray) (hs : s.size ≤ 1073741824000000) (w : World) :
    Calls Tryz.prog 9 #[.string s] w (ReadPost s w) := by
  by_cases hm : s.extract 0 4 = markT
  · have CP := Lib.hid (fun W => cut_yes s hm W)
    by_cases hsz : s.size < 28
    · have NO : Hid (¬ readOk s) := Lib.hid (fun h => by have := h.1; omega)
      clear hm
      go_enter Tryz.func9, Tryz.ntmps9
      go_wp2_with fail
      refine (CP.out _).mono ?_
      rintro e w2 ⟨rfl, rfl⟩
      go_wp2_with fail
      refine bodyPost_ret (v := .tuple #[headV 0 0 0 0 0 0 0 0, .int .i64 4]) (by simp [results, Tryz.results9, go_sem, headV]) rfl ?_
      exact ⟨(Below.refl _ _).alloc (Nat.le_refl _) _, .inr ⟨NO.out, rfl⟩⟩
    · have HM := Lib.hid hm
      have HZ := Lib.hid (show 28 ≤ s.size by omega)
      have s28 : (28 : Int) ≤ (s.size : Int) := by omega
      obtain ⟨r, hr⟩ : ∃ r, restT s = r := ⟨_, rfl⟩
      have hrz : r.size = s.size - 4 := by rw [← hr]; exact restT_size s
      have HF : Hid (∀ p k, fld r p k = fld s (p + 4) k) := Lib.hid (fun p k => by rw [← hr]; exact fld_rest s p k)
      rw [hr] at CP
      have OP := Lib.hid (fun W => ropen_any (paint (fun _ => 100) w.heap.size 49) 0 r (by omega) W)
      have HRZ : Hid (24 ≤ r.size) := Lib.hid (by omega)
      clear hm hr hrz
      go_enter Tryz.func9, Tryz.ntmps9
      go_wp2_with fail
      refine (CP.out _).mono ?_
      rintro e w2 ⟨rfl, rfl⟩
      obtain ⟨w1, hw1⟩ : ∃ W, w.alloc (.cells #[.int .i64 0, .int .i64 0, .int .i64 0, .int .i64 0, .int .i64 0, .int .i64 0, .int .i64 0, .int .i64 0] 30) = W := ⟨_, rfl⟩
      rw [hw1]
      have HW1 := Lib.hid hw1
      clear hw1
      go_wp2_with fail
      refine (OP.out _).mono ?_
      rintro e w2 ⟨rb, x', rfl, f2, hr2, -, k2⟩
      have R0 := Lib.hid (RT.start HW1.out.symm f2 hr2)
      have hpb1 : w.heap.size < w2.heap.size := lt_of_block ((f2.old _ (lt_of_block (by rw [← HW1.out]; exact heap_alloc_new w _)) (by show ¬ paint (fun _ => 100) w.heap.size 49 w.heap.size = 0; rw [paint_new (Nat.le_refl _)]; decide)).trans (by rw [← HW1.out]; exact heap_alloc_new w _))
      clear f2 hr2 k2 CP OP
      go_upto_region 7 with fail
      obtain ⟨sz, hsz2⟩ : ∃ k, w.heap.size = k := ⟨_, rfl⟩
      obtain ⟨pb, hpb⟩ : ∃ k, w2.heap.size = k := ⟨_, rfl⟩
      have HSZ := Lib.hid hsz2
      rw [hsz2, hpb] at R0 hpb1
      have HPB := Lib.hid hpb1
      rw [hsz2, hpb]
      generalize World.alloc (World.alloc w2 _) _ = W0 at R0 ⊢
      obtain ⟨bb, hbb⟩ : ∃ k, pb + 1 = k := ⟨_, rfl⟩
      rw [hbb] at R0 ⊢
      clear hsz2 hpb hbb hpb1 HW1
      obtain ⟨m1, hm1⟩ : ∃ m, fld r 0 4 % 268435456 = m := ⟨_, rfl⟩
      obtain ⟨b1, hb1⟩ : ∃ b, (false || decide (134217728 < fld r 0 4)) = b := ⟨_, rfl⟩
      have T1 := Lib.hid (fun ks W h hp => take4 w pb rb bb r 0 4 m1 false b1 ks rfl hm1 hb1 (by have := HRZ.out; omega) W h hp)
      have HM1 := Lib.hid hm1
      have HB1 := Lib.hid hb1
      obtain ⟨m2, hm2⟩ : ∃ m, fld r 4 4 % 268435456 = m := ⟨_, rfl⟩
      obtain ⟨b2, hb2⟩ : ∃ b, (b1 || decide (134217728 < fld r 4 4)) = b := ⟨_, rfl⟩
      have T2 := Lib.hid (fun ks W h hp => take4 w pb rb bb r 4 8 m2 b1 b2 ks rfl hm2 hb2 (by have := HRZ.out; omega) W h hp)
      have HM2 := Lib.hid hm2
      have HB2 := Lib.hid hb2
      obtain ⟨m3, hm3⟩ : ∃ m, fld r 8 1 % 268435456 = m := ⟨_, rfl⟩
      obtain ⟨b3, hb3⟩ : ∃ b, (b2 || decide (134217728 < fld r 8 1)) = b := ⟨_, rfl⟩
      have T3 := Lib.hid (fun ks W h hp => take1 w pb rb bb r 8 9 m3 b2 b3 ks rfl hm3 hb3 (by have := HRZ.out; omega) W h hp)
      have HM3 := Lib.hid hm3
      have HB3 := Lib.hid hb3
      obtain ⟨m4, hm4⟩ : ∃ m, fld r 9 1 % 268435456 = m := ⟨_, rfl⟩
      obtain ⟨b4, hb4⟩ : ∃ b, (b3 || decide (134217728 < fld r 9 1)) = b := ⟨_, rfl⟩
      have T4 := Lib.hid (fun ks W h hp => take1 w pb rb bb r 9 10 m4 b3 b4 ks rfl hm4 hb4 (by have := HRZ.out; omega) W h hp)
      have HM4 := Lib.hid hm4
      have HB4 := Lib.hid hb4
      obtain ⟨m5, hm5⟩ : ∃ m, fld r 10 1 % 268435456 = m := ⟨_, rfl⟩
      obtain ⟨b5, hb5⟩ : ∃ b, (b4 || decide (134217728 < fld r 10 1)) = b := ⟨_, rfl⟩
      have T5 := Lib.hid (fun ks W h hp => take1 w pb rb bb r 10 11 m5 b4 b5 ks rfl hm5 hb5 (by have := HRZ.out; omega) W h hp)
      have HM5 := Lib.hid hm5
      have HB5 := Lib.hid hb5
      obtain ⟨m6, hm6⟩ : ∃ m, fld r 11 1 % 268435456 = m := ⟨_, rfl⟩
      obtain ⟨b6, hb6⟩ : ∃ b, (b5 || decide (134217728 < fld r 11 1)) = b := ⟨_, rfl⟩
      have T6 := Lib.hid (fun ks W h hp => take1 w pb rb bb r 11 12 m6 b5 b6 ks rfl hm6 hb6 (by have := HRZ.out; omega) W h hp)
      have HM6 := Lib.hid hm6
      have HB6 := Lib.hid hb6
      obtain ⟨m7, hm7⟩ : ∃ m, fld r 12 4 % 268435456 = m := ⟨_, rfl⟩
      obtain ⟨b7, hb7⟩ : ∃ b, (b6 || decide (134217728 < fld r 12 4)) = b := ⟨_, rfl⟩
      have T7 := Lib.hid (fun ks W h hp => take4 w pb rb bb r 12 16 m7 b6 b7 ks rfl hm7 hb7 (by have := HRZ.out; omega) W h hp)
      have HM7 := Lib.hid hm7
      have HB7 := Lib.hid hb7
      obtain ⟨m8, hm8⟩ : ∃ m, fld r 16 8 % 268435456 = m := ⟨_, rfl⟩
      obtain ⟨b8, hb8⟩ : ∃ b, (b7 || decide (134217728 < fld r 16 8)) = b := ⟨_, rfl⟩
      have T8 := Lib.hid (fun ks W h hp => take8 w pb rb bb r 16 24 m8 b7 b8 ks rfl hm8 hb8 (by have := HRZ.out; omega) W h hp)
      have HM8 := Lib.hid hm8
      have HB8 := Lib.hid hb8
      clear hm1 hb1 hm2 hb2 hm3 hb3 hm4 hb4 hm5 hb5 hm6 hb6 hm7 hb7 hm8 hb8
      have KS : Hid (∀ hb row, (pb, .cells #[.pointer (some ⟨rb, 0, none⟩)] 56 (0, 0)) ∈ ((hb, Obj.cells row 30 (0, 0)) :: [(pb, .cells #[.pointer (some ⟨rb, 0, none⟩)] 56 (0, 0)), (sz, .cells #[.int .i64 0, .int .i64 0, .int .i64 0, .int .i64 0, .int .i64 0, .int .i64 0, .int .i64 0, .int .i64 0] 30 (0, 0))])) := Lib.hid (fun hb row => List.mem_cons_of_mem _ (List.mem_cons_self ..))
      go_wp2_with fail
      refine (T1.out _ _ R0.out (List.mem_cons_self ..)).mono ?_
      rintro e w3 ⟨rfl, h3⟩
      have R3 := Lib.hid h3
      clear h3 R0 T1
      go_wp2_with fail
      refine (T2.out _ _ R3.out (List.mem_cons_self ..)).mono ?_
      rintro e w4 ⟨rfl, h4⟩
      have R4 := Lib.hid h4
      clear h4 R3 T2
      go_upto_region 8 with fail
      have hne : ∀ p ∈ ([(pb, .cells #[.pointer (some ⟨rb, 0, none⟩)] 56 (0, 0)), (sz, .cells #[.int .i64 0, .int .i64 0, .int .i64 0, .int .i64 0, .int .i64 0, .int .i64 0, .int .i64 0, .int .i64 0] 30 (0, 0))] : List (Nat × Obj)), p.1 ≠ w4.heap.size := by
        intro p hp
        have := lt_of_block (R4.out.row (b := p.1) (o := p.2) hp)
        omega
      have h5 := R4.out.keep #[.int .i64 (m1 : Int), .int .i64 (m2 : Int), .int .i64 0, .int .i64 0, .int .i64 0, .int .i64 0, .int .i64 0, .int .i64 0] 30
      obtain ⟨hb, hhb⟩ : ∃ k, w4.heap.size = k := ⟨_, rfl⟩
      rw [hhb] at hne h5 ⊢
      have HNE := Lib.hid hne
      have R5 := Lib.hid h5
      generalize World.alloc w4 _ = w5 at R5 h5 ⊢
      clear hne h5 R4 hhb
      go_wp2_with fail
      refine (T3.out _ _ R5.out (KS.out _ _)).mono ?_
      rintro e w6 ⟨rfl, h6⟩
      have R6 := Lib.hid h6
      clear h6 R5 T3
      go_wp2_with fail
      refine (T4.out _ _ R6.out (KS.out _ _)).mono ?_
      rintro e w7 ⟨rfl, h7⟩
      have R7 := Lib.hid h7
      clear h7 R6 T4
      go_wp2_with fail
      refine (T5.out _ _ R7.out (KS.out _ _)).mono ?_
      rintro e w8 ⟨rfl, h8⟩
      have R8 := Lib.hid h8
      clear h8 R7 T5
      go_wp2_with fail
      refine (T6.out _ _ R8.out (KS.out _ _)).mono ?_
      rintro e w9 ⟨rfl, h9⟩
      have R9 := Lib.hid h9
      clear h9 R8 T6
      go_wp2_with fail
      refine (T7.out _ _ R9.out (KS.out _ _)).mono ?_
      rintro e w10 ⟨rfl, h10⟩
      have R10 := Lib.hid h10
      clear h10 R9 T7
      have q := R10.out.row (List.mem_cons_self ..)
      have e2 : w10.cell? ⟨hb, 2, none⟩ = some (.int .i64 0) := by rw [cell_of_row w10 _ _ _ _ _ q]; rfl
      have e3 : w10.cell? ⟨hb, 3, none⟩ = some (.int .i64 0) := by rw [cell_of_row w10 _ _ _ _ _ q]; rfl
      have e4 : w10.cell? ⟨hb, 4, none⟩ = some (.int .i64 0) := by rw [cell_of_row w10 _ _ _ _ _ q]; rfl
      have e5 : w10.cell? ⟨hb, 5, none⟩ = some (.int .i64 0) := by rw [cell_of_row w10 _ _ _ _ _ q]; rfl
      have e6 : w10.cell? ⟨hb, 6, none⟩ = some (.int .i64 0) := by rw [cell_of_row w10 _ _ _ _ _ q]; rfl
      have g2 : ∀ j, w10.frozen? ⟨hb, j, none⟩ = false := fun j => frozen_of_row w10 _ j _ _ q
      clear q
      go_upto_region 9 with fail
      have h11 := ((((R10.out.write HNE.out 2 (.int .i64 (m3 : Int))).write HNE.out 3 (.int .i64 (m4 : Int))).write HNE.out 4 (.int .i64 (m5 : Int))).write HNE.out 5 (.int .i64 (m6 : Int))).write HNE.out 6 (.int .i64 (m7 : Int))
      clear e2 e3 e4 e5 e6 g2 R10
      generalize World.setCell (World.setCell (World.setCell (World.setCell (World.setCell w10 _ _) _ _) _ _) _ _) _ _ = w11 at h11 ⊢
      have R11 : Hid (RT w rb bb r (8 * 16) b7 ((hb, .cells #[.int .i64 (m1 : Int), .int .i64 (m2 : Int), .int .i64 (m3 : Int), .int .i64 (m4 : Int), .int .i64 (m5 : Int), .int .i64 (m6 : Int), .int .i64 (m7 : Int), .int .i64 0] 30 (0, 0)) :: [(pb, .cells #[.pointer (some ⟨rb, 0, none⟩)] 56 (0, 0)), (sz, .cells #[.int .i64 0, .int .i64 0, .int .i64 0, .int .i64 0, .int .i64 0, .int .i64 0, .int .i64 0, .int .i64 0] 30 (0, 0))]) w11) := Lib.hid h11
      clear h11
      go_wp2_with fail
      refine (T8.out _ _ R11.out (KS.out _ _)).mono ?_
      rintro e w12 ⟨rfl, h12⟩
      have R12 := Lib.hid h12
      have q := h12.row (List.mem_cons_self ..)
      have e7 : w12.cell? ⟨hb, 7, none⟩ = some (.int .i64 0) := by rw [cell_of_row w12 _ _ _ _ _ q]; rfl
      have g2 : ∀ j, w12.frozen? ⟨hb, j, none⟩ = false := fun j => frozen_of_row w12 _ j _ _ q
      clear h12 q R11 T8
      go_upto_region 10 with fail
      have h13 := R12.out.write HNE.out 7 (.int .i64 (m8 : Int))
      clear e7 g2 R12
      generalize World.setCell w12 _ _ = w13 at h13 ⊢
      have R13 : Hid (RT w rb bb r (8 * 24) b8 ((hb, .cells #[.int .i64 (m1 : Int), .int .i64 (m2 : Int), .int .i64 (m3 : Int), .int .i64 (m4 : Int), .int .i64 (m5 : Int), .int .i64 (m6 : Int), .int .i64 (m7 : Int), .int .i64 (m8 : Int)] 30 (0, 0)) :: [(pb, .cells #[.pointer (some ⟨rb, 0, none⟩)] 56 (0, 0)), (sz, .cells #[.int .i64 0, .int .i64 0, .int .i64 0, .int .i64 0, .int .i64 0, .int .i64 0, .int .i64 0, .int .i64 0] 30 (0, 0))]) w13) := Lib.hid h13
      clear h13
      have VE := Lib.hid (progHead (s := s) HF.out HZ.out HM.out HM1.out HM2.out HM3.out HM4.out HM5.out HM6.out HM7.out HM8.out HB1.out HB2.out HB3.out HB4.out HB5.out HB6.out HB7.out HB8.out)
      clear HM1 HM2 HM3 HM4 HM5 HM6 HM7 HM8 HB1 HB2 HB3 HB4 HB5 HB6 HB7 HB8 HRZ HNE KS
      have q13 := R13.out.row (List.mem_cons_self ..)
      have z13 := R13.out.row (List.mem_cons_of_mem _ (List.mem_cons_of_mem _ (List.mem_cons_self ..)))
      have c13 : w13.cell? ⟨bb, 0, none⟩ = some (.bool b8) := by rw [cell_of_row _ _ _ _ _ _ R13.out.bad]; rfl
      have Q13 := Lib.hid q13
      have Z13 := Lib.hid z13
      have B13 := Lib.hid R13.out.below
      clear z13 R13
      cases b8
      · have V0 := Lib.hid (fun h => (VE.out.1 h).2)
        have V1 := Lib.hid (VE.out.2 rfl)
        clear VE
        have c5 : ∀ j, w13.cell? ⟨hb, j, none⟩ = (#[Value.int .i64 (m1 : Int), .int .i64 (m2 : Int), .int .i64 (m3 : Int), .int .i64 (m4 : Int), .int .i64 (m5 : Int), .int .i64 (m6 : Int), .int .i64 (m7 : Int), .int .i64 (m8 : Int)])[j]? := fun j => cell_of_row _ _ _ _ _ _ q13
        have f5 : ∀ j, w13.frozen? ⟨hb, j, none⟩ = false := fun j => frozen_of_row w13 _ j _ _ q13
        have CH := Lib.hid (fun W => hcheck_any m1 m2 m3 m4 m5 m6 m7 m8 W)
        unfold headV at CH
        clear q13
        go_wp2_with fail
        refine (CH.out _).mono ?_
        clear c5 f5 CH c13
        rintro e w14 ⟨k14, ⟨hok, rfl⟩ | ⟨hno, rfl⟩⟩
        · have z14 := (k14.block _ (lt_of_block Z13.out)).trans Z13.out
          have q14 := (k14.block _ (lt_of_block Q13.out)).trans Q13.out
          have K14 := Lib.hid (below_more B13.out k14)
          have e0 : w14.cell? ⟨sz, 0, none⟩ = some (.int .i64 0) := by rw [cell_of_row _ _ _ _ _ _ z14]; rfl
          have e1 : w14.cell? ⟨sz, 1, none⟩ = some (.int .i64 0) := by rw [cell_of_row _ _ _ _ _ _ z14]; rfl
          have e2 : w14.cell? ⟨sz, 2, none⟩ = some (.int .i64 0) := by rw [cell_of_row _ _ _ _ _ _ z14]; rfl
          have e3 : w14.cell? ⟨sz, 3, none⟩ = some (.int .i64 0) := by rw [cell_of_row _ _ _ _ _ _ z14]; rfl
          have e4 : w14.cell? ⟨sz, 4, none⟩ = some (.int .i64 0) := by rw [cell_of_row _ _ _ _ _ _ z14]; rfl
          have e5 : w14.cell? ⟨sz, 5, none⟩ = some (.int .i64 0) := by rw [cell_of_row _ _ _ _ _ _ z14]; rfl
          have e6 : w14.cell? ⟨sz, 6, none⟩ = some (.int .i64 0) := by rw [cell_of_row _ _ _ _ _ _ z14]; rfl
          have e7 : w14.cell? ⟨sz, 7, none⟩ = some (.int .i64 0) := by rw [cell_of_row _ _ _ _ _ _ z14]; rfl
          have g6 : ∀ j, w14.frozen? ⟨sz, j, none⟩ = false := fun j => frozen_of_row w14 _ j _ _ z14
          have c6 : ∀ j, w14.cell? ⟨hb, j, none⟩ = (#[Value.int .i64 (m1 : Int), .int .i64 (m2 : Int), .int .i64 (m3 : Int), .int .i64 (m4 : Int), .int .i64 (m5 : Int), .int .i64 (m6 : Int), .int .i64 (m7 : Int), .int .i64 (m8 : Int)])[j]? := fun j => cell_of_row _ _ _ _ _ _ q14
          have f6 : ∀ j, w14.frozen? ⟨hb, j, none⟩ = false := fun j => frozen_of_row w14 _ j _ _ q14
          have HOK := Lib.hid hok
          clear z14 k14 q14 hok
          go_wp2_with fail
          have hs : ∀ j, w.heap.size ≤ (⟨sz, j, none⟩ : Addr).block := fun j => by have := HSZ.out; simp; omega
          refine bodyPost_ret (v := .tuple #[headV m1 m2 m3 m4 m5 m6 m7 m8, .int .i64 0]) (by simp [results, Tryz.results9, go_sem, headV, *]) rfl ?_
          have HH := V1.out HOK.out
          refine ⟨(((((((K14.out.setCell (hs _) _).setCell (hs _) _).setCell (hs _) _).setCell (hs _) _).setCell (hs _) _).setCell (hs _) _).setCell (hs _) _).setCell (hs _) _, .inl ⟨HH.1, ?_⟩⟩
          rw [HH.2]
        · have z14 := (k14.block _ (lt_of_block Z13.out)).trans Z13.out
          have K14 := Lib.hid (below_more B13.out k14)
          have e0 : w14.cell? ⟨sz, 0, none⟩ = some (.int .i64 0) := by rw [cell_of_row _ _ _ _ _ _ z14]; rfl
          have e1 : w14.cell? ⟨sz, 1, none⟩ = some (.int .i64 0) := by rw [cell_of_row _ _ _ _ _ _ z14]; rfl
          have e2 : w14.cell? ⟨sz, 2, none⟩ = some (.int .i64 0) := by rw [cell_of_row _ _ _ _ _ _ z14]; rfl
          have e3 : w14.cell? ⟨sz, 3, none⟩ = some (.int .i64 0) := by rw [cell_of_row _ _ _ _ _ _ z14]; rfl
          have e4 : w14.cell? ⟨sz, 4, none⟩ = some (.int .i64 0) := by rw [cell_of_row _ _ _ _ _ _ z14]; rfl
          have e5 : w14.cell? ⟨sz, 5, none⟩ = some (.int .i64 0) := by rw [cell_of_row _ _ _ _ _ _ z14]; rfl
          have e6 : w14.cell? ⟨sz, 6, none⟩ = some (.int .i64 0) := by rw [cell_of_row _ _ _ _ _ _ z14]; rfl
          have e7 : w14.cell? ⟨sz, 7, none⟩ = some (.int .i64 0) := by rw [cell_of_row _ _ _ _ _ _ z14]; rfl
          have g6 : ∀ j, w14.frozen? ⟨sz, j, none⟩ = false := fun j => frozen_of_row w14 _ j _ _ z14
          have HNO := Lib.hid hno
          clear z14 k14 hno
          go_wp2_with fail
          have hs : ∀ j, w.heap.size ≤ (⟨sz, j, none⟩ : Addr).block := fun j => by have := HSZ.out; simp; omega
          refine bodyPost_ret (v := .tuple #[headV 0 0 0 0 0 0 0 0, .int .i64 4]) (by simp [results, Tryz.results9, go_sem, headV, *]) rfl ?_
          exact ⟨(((((((K14.out.setCell (hs _) _).setCell (hs _) _).setCell (hs _) _).setCell (hs _) _).setCell (hs _) _).setCell (hs _) _).setCell (hs _) _).setCell (hs _) _, .inr ⟨fun h => HNO.out (V0.out h), rfl⟩⟩
      · have V2 : Hid (¬ readOk s) := Lib.hid (fun h => by have := (VE.out.1 h).1; cases this)
        clear q13 VE
        have e0 : w13.cell? ⟨sz, 0, none⟩ = some (.int .i64 0) := by rw [cell_of_row _ _ _ _ _ _ Z13.out]; rfl
        have e1 : w13.cell? ⟨sz, 1, none⟩ = some (.int .i64 0) := by rw [cell_of_row _ _ _ _ _ _ Z13.out]; rfl
        have e2 : w13.cell? ⟨sz, 2, none⟩ = some (.int .i64 0) := by rw [cell_of_row _ _ _ _ _ _ Z13.out]; rfl
        have e3 : w13.cell? ⟨sz, 3, none⟩ = some (.int .i64 0) := by rw [cell_of_row _ _ _ _ _ _ Z13.out]; rfl
        have e4 : w13.cell? ⟨sz, 4, none⟩ = some (.int .i64 0) := by rw [cell_of_row _ _ _ _ _ _ Z13.out]; rfl
        have e5 : w13.cell? ⟨sz, 5, none⟩ = some (.int .i64 0) := by rw [cell_of_row _ _ _ _ _ _ Z13.out]; rfl
        have e6 : w13.cell? ⟨sz, 6, none⟩ = some (.int .i64 0) := by rw [cell_of_row _ _ _ _ _ _ Z13.out]; rfl
        have e7 : w13.cell? ⟨sz, 7, none⟩ = some (.int .i64 0) := by rw [cell_of_row _ _ _ _ _ _ Z13.out]; rfl
        have g6 : ∀ j, w13.frozen? ⟨sz, j, none⟩ = false := fun j => frozen_of_row w13 _ j _ _ Z13.out
        go_wp2_with fail
        have hs : ∀ j, w.heap.size ≤ (⟨sz, j, none⟩ : Addr).block := fun j => by have := HSZ.out; simp; omega
        refine bodyPost_ret (v := .tuple #[headV 0 0 0 0 0 0 0 0, .int .i64 4]) (by simp [results, Tryz.results9, go_sem, headV, *]) rfl ?_
        exact ⟨(((((((B13.out.setCell (hs _) _).setCell (hs _) _).setCell (hs _) _).setCell (hs _) _).setCell (hs _) _).setCell (hs _) _).setCell (hs _) _).setCell (hs _) _, .inr ⟨V2.out, rfl⟩⟩
  · have CP := Lib.hid (fun W => cut_no s hm W)
    have NO : Hid (¬ readOk s) := Lib.hid (fun h => hm h.2.1)
    clear hm
    go_enter Tryz.func9, Tryz.ntmps9
    go_wp2_with fail
    refine (CP.out _).mono ?_
    rintro e w2 ⟨rfl, rfl⟩
    go_wp2_with fail
    refine bodyPost_ret (v := .tuple #[headV 0 0 0 0 0 0 0 0, .int .i64 4]) (by simp [results, Tryz.results9, go_sem, headV]) rfl ?_
    exact ⟨(Below.refl _ _).alloc (Nat.le_refl _) _, .inr ⟨NO.out, rfl⟩⟩
end Go.Proofs.YthaicpbdlhkkkaaGreatDoor.pk
