/- pack: what the law's calls answer, the program's and the document's alike. -/
import Derived.Test.YthaicpbdlhkkkaaGreatDoorPkO
namespace Go.Proofs.YthaicpbdlhkkkaaGreatDoor.pk
open Go.RowKit Go.Proofs.YthaicpbdlhkkkaaGreatDoor.own Go.Proofs.YthaicpbdlhkkkaaGreatDoor.bit Go.Proofs.YthaicpbdlhkkkaaGreatDoor.ef

theorem text_same (n m a d i z c b : Int) : ∃ (t : ByteArray) (e0 : Int), (∀ w, Calls Tryz.prog 5 #[headV n m a d i z c b] w fun e w' => e = .returned (.tuple #[.string t, .int .i64 e0]) ∧ Below w.heap.size w w') ∧ (∀ w, Calls Tryz.prog 6 #[headV n m a d i z c b] w fun e w' => e = .returned (.tuple #[.string t, .int .i64 e0]) ∧ Below w.heap.size w w') := by
  by_cases h : headOk n m a d i z c b
  · have g : ∀ w e w', TextPost n m a d i z c b w e w' → e = .returned (.tuple #[.string (headTxt n.toNat m.toNat a.toNat d.toNat i.toNat z.toNat c.toNat b.toNat), .int .i64 0]) ∧ Below w.heap.size w w' := by
      rintro w e w' ⟨k, ⟨_, he⟩ | ⟨hn, _⟩⟩
      · exact ⟨he, k⟩
      · exact absurd h hn
    exact ⟨_, _, fun w => (text_any n m a d i z c b w).mono (g w), fun w => (dtext_any n m a d i z c b w).mono (g w)⟩
  · have g : ∀ w e w', TextPost n m a d i z c b w e w' → e = .returned (.tuple #[.string ⟨#[]⟩, .int .i64 1]) ∧ Below w.heap.size w w' := by
      rintro w e w' ⟨k, ⟨hn, _⟩ | ⟨_, he⟩⟩
      · exact absurd hn h
      · exact ⟨he, k⟩
    exact ⟨_, _, fun w => (text_any n m a d i z c b w).mono (g w), fun w => (dtext_any n m a d i z c b w).mono (g w)⟩
theorem size_same (n m a d i z c b : Int) : ∃ (t e0 : Int), (∀ w, Calls Tryz.prog 7 #[headV n m a d i z c b] w fun e w' => e = .returned (.tuple #[.int .i64 t, .int .i64 e0]) ∧ Below w.heap.size w w') ∧ (∀ w, Calls Tryz.prog 8 #[headV n m a d i z c b] w fun e w' => e = .returned (.tuple #[.int .i64 t, .int .i64 e0]) ∧ Below w.heap.size w w') := by
  by_cases h : headOk n m a d i z c b
  · have g : ∀ w e w', SizePost n m a d i z c b w e w' → e = .returned (.tuple #[.int .i64 (28 + (b + 7).tdiv 8 + (sizeB (n + 1).toNat (b.toNat + 1) : Nat)), .int .i64 0]) ∧ Below w.heap.size w w' := by
      rintro w e w' ⟨k, ⟨_, he⟩ | ⟨hn, _⟩⟩
      · exact ⟨he, k⟩
      · exact absurd h hn
    exact ⟨_, _, fun w => (hsize_any n m a d i z c b w).mono (g w), fun w => (dhsize_any n m a d i z c b w).mono (g w)⟩
  · have g : ∀ w e w', SizePost n m a d i z c b w e w' → e = .returned (.tuple #[.int .i64 0, .int .i64 1]) ∧ Below w.heap.size w w' := by
      rintro w e w' ⟨k, ⟨hn, _⟩ | ⟨_, he⟩⟩
      · exact absurd hn h
      · exact ⟨he, k⟩
    exact ⟨_, _, fun w => (hsize_any n m a d i z c b w).mono (g w), fun w => (dhsize_any n m a d i z c b w).mono (g w)⟩
theorem check_same (n m a d i z c b : Int) : ∃ (e0 : Int), (∀ w, Calls Tryz.prog 11 #[headV n m a d i z c b] w fun e w' => e = .returned (.int .i64 e0) ∧ Below w.heap.size w w') ∧ (∀ w, Calls Tryz.prog 12 #[headV n m a d i z c b] w fun e w' => e = .returned (.int .i64 e0) ∧ Below w.heap.size w w') := by
  by_cases h : headOk n m a d i z c b
  · have g : ∀ w e w', Told (headOk n m a d i z c b) w e w' → e = .returned (.int .i64 0) ∧ Below w.heap.size w w' := by
      rintro w e w' ⟨k, ⟨_, he⟩ | ⟨hn, _⟩⟩
      · exact ⟨he, k⟩
      · exact absurd h hn
    exact ⟨_, fun w => (hcheck_any n m a d i z c b w).mono (g w), fun w => (dhcheck_any n m a d i z c b w).mono (g w)⟩
  · have g : ∀ w e w', Told (headOk n m a d i z c b) w e w' → e = .returned (.int .i64 1) ∧ Below w.heap.size w w' := by
      rintro w e w' ⟨k, ⟨hn, _⟩ | ⟨_, he⟩⟩
      · exact absurd hn h
      · exact ⟨he, k⟩
    exact ⟨_, fun w => (hcheck_any n m a d i z c b w).mono (g w), fun w => (dhcheck_any n m a d i z c b w).mono (g w)⟩
theorem read_same (s : ByteArray) (hs : s.size ≤ 1073741824000000) : ∃ (n m a d i z c b e0 : Int), (∀ w, Calls Tryz.prog 9 #[.string s] w fun e w' => e = .returned (.tuple #[headV n m a d i z c b, .int .i64 e0]) ∧ Below w.heap.size w w') ∧ (∀ w, Calls Tryz.prog 10 #[.string s] w fun e w' => e = .returned (.tuple #[headV n m a d i z c b, .int .i64 e0]) ∧ Below w.heap.size w w') := by
  by_cases h : readOk s
  · have g : ∀ w e w', ReadPost s w e w' → e = .returned (.tuple #[headS s, .int .i64 0]) ∧ Below w.heap.size w w' := by
      rintro w e w' ⟨k, ⟨_, he⟩ | ⟨hn, _⟩⟩
      · exact ⟨he, k⟩
      · exact absurd h hn
    exact ⟨_, _, _, _, _, _, _, _, _, fun w => (read_any s hs w).mono (g w), fun w => (dread_any s hs w).mono (g w)⟩
  · have g : ∀ w e w', ReadPost s w e w' → e = .returned (.tuple #[headV 0 0 0 0 0 0 0 0, .int .i64 4]) ∧ Below w.heap.size w w' := by
      rintro w e w' ⟨k, ⟨hn, _⟩ | ⟨_, he⟩⟩
      · exact absurd hn h
      · exact ⟨he, k⟩
    exact ⟨_, _, _, _, _, _, _, _, _, fun w => (read_any s hs w).mono (g w), fun w => (dread_any s hs w).mono (g w)⟩
end Go.Proofs.YthaicpbdlhkkkaaGreatDoor.pk
