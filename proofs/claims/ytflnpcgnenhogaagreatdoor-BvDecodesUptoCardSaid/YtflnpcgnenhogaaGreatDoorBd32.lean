/- Own lemmas, laid together. -/
import Derived.Test.YtflnpcgnenhogaaGreatDoorBd31
import Derived.Test.YtflnpcgnenhogaaGreatDoorBd21
import Derived.Test.YtflnpcgnenhogaaGreatDoorBd25
namespace Go.Proofs.YtflnpcgnenhogaaGreatDoor.ls
open Go.RowKit Go.Proofs.YtflnpcgnenhogaaGreatDoor.own Go.Proofs.YtflnpcgnenhogaaGreatDoor.bit

def bpV (win dep itv zet cap : Int) : Value := .agg #[.int .i64 win, .int .i64 dep, .int .i64 itv, .int .i64 zet, .int .i64 cap]
def BpOk (win dep itv zet cap : Int) : Prop := ParOk win itv zet ∧ 0 ≤ dep ∧ dep ≤ 16 ∧ 0 ≤ cap ∧ cap ≤ 65536
instance (win dep itv zet cap : Int) : Decidable (BpOk win dep itv zet cap) := by unfold BpOk; exact inferInstance
set_option maxRecDepth 100000 in
theorem blist_any (win dep itv zet cap : Int) (w : World) : Calls Tryz.prog 26 #[bpV win dep itv zet cap] w fun e w' => e = .returned (parV win itv zet) ∧ Below w.heap.size w w' := by
 unfold bpV
 go_enter Tryz.func26,Tryz.ntmps26
 go_wp2_with fail
 generalize hW : World.alloc (World.alloc w _) _ = W0
 obtain ⟨r1,r2,kb⟩ := rows2 hW
 have q0 : W0.cell? ⟨w.heap.size + 1,0,none⟩ = some (.int .i64 win) := by rw [cell_of_row _ _ _ _ _ _ r2]; rfl
 have q1 : W0.cell? ⟨w.heap.size + 1,1,none⟩ = some (.int .i64 itv) := by rw [cell_of_row _ _ _ _ _ _ r2]; rfl
 have q2 : W0.cell? ⟨w.heap.size + 1,2,none⟩ = some (.int .i64 zet) := by rw [cell_of_row _ _ _ _ _ _ r2]; rfl
 exact bodyPost_ret (v := .agg #[.int .i64 win,.int .i64 itv,.int .i64 zet]) (by simp [results,Tryz.results26,go_sem,q0,q1,q2]) rfl ⟨rfl,kb⟩
set_option maxRecDepth 100000 in
theorem dblist_any (win dep itv zet cap : Int) (w : World) : Calls Tryz.prog 64 #[bpV win dep itv zet cap] w fun e w' => e = .returned (parV win itv zet) ∧ Below w.heap.size w w' := by
 unfold bpV
 go_enter Tryz.func64,Tryz.ntmps64
 go_wp2_with fail
 generalize hW : World.alloc (World.alloc w _) _ = W0
 obtain ⟨r1,r2,kb⟩ := rows2 hW
 have q0 : W0.cell? ⟨w.heap.size + 1,0,none⟩ = some (.int .i64 win) := by rw [cell_of_row _ _ _ _ _ _ r2]; rfl
 have q1 : W0.cell? ⟨w.heap.size + 1,1,none⟩ = some (.int .i64 itv) := by rw [cell_of_row _ _ _ _ _ _ r2]; rfl
 have q2 : W0.cell? ⟨w.heap.size + 1,2,none⟩ = some (.int .i64 zet) := by rw [cell_of_row _ _ _ _ _ _ r2]; rfl
 exact bodyPost_ret (v := .agg #[.int .i64 win,.int .i64 itv,.int .i64 zet]) (by simp [results,Tryz.results64,go_sem,q0,q1,q2]) rfl ⟨rfl,kb⟩
set_option maxRecDepth 100000 in
theorem bown_any (win dep itv zet cap : Int) (w : World) : Calls Tryz.prog 23 #[bpV win dep itv zet cap] w fun e w' => e = .returned (bpV win dep itv zet cap) ∧ Below w.heap.size w w' := by
 unfold bpV
 go_enter Tryz.func23,Tryz.ntmps23
 go_wp2_with fail
 generalize hW : World.alloc (World.alloc w _) _ = W0
 obtain ⟨r1,r2,kb⟩ := rows2 hW
 have q0 : W0.cell? ⟨w.heap.size + 1,0,none⟩ = some (.int .i64 win) := by rw [cell_of_row _ _ _ _ _ _ r2]; rfl
 have q1 : W0.cell? ⟨w.heap.size + 1,1,none⟩ = some (.int .i64 dep) := by rw [cell_of_row _ _ _ _ _ _ r2]; rfl
 have q2 : W0.cell? ⟨w.heap.size + 1,2,none⟩ = some (.int .i64 itv) := by rw [cell_of_row _ _ _ _ _ _ r2]; rfl
 have q3 : W0.cell? ⟨w.heap.size + 1,3,none⟩ = some (.int .i64 zet) := by rw [cell_of_row _ _ _ _ _ _ r2]; rfl
 have q4 : W0.cell? ⟨w.heap.size + 1,4,none⟩ = some (.int .i64 cap) := by rw [cell_of_row _ _ _ _ _ _ r2]; rfl
 exact bodyPost_ret (v := .agg #[.int .i64 win,.int .i64 dep,.int .i64 itv,.int .i64 zet,.int .i64 cap]) (by simp [results,Tryz.results23,go_sem,q0,q1,q2,q3,q4]) rfl ⟨rfl,kb⟩
set_option maxRecDepth 100000 in
set_option maxHeartbeats 3200000 in
theorem bcheck_any (win dep itv zet cap : Int) (w : World) : Calls Tryz.prog 29 #[bpV win dep itv zet cap] w fun e w' => e = .returned (.int .i64 (if BpOk win dep itv zet cap then 0 else 1)) ∧ Below w.heap.size w w' := by
 obtain ⟨k,hk⟩ : ∃ k : Int,(if BpOk win dep itv zet cap then 0 else 1) = k := ⟨_,rfl⟩
 rw [hk]
 have HK := Lib.hid hk
 clear hk
 have YES : Hid (BpOk win dep itv zet cap -> k = 0) := Lib.hid (fun h => by have := HK.out; rw [if_pos h] at this; exact this.symm)
 have NO : Hid (¬ BpOk win dep itv zet cap -> k = 1) := Lib.hid (fun h => by have := HK.out; rw [if_neg h] at this; exact this.symm)
 clear HK
 have BL := Lib.hid (fun W => blist_any win dep itv zet cap W)
 have CK := Lib.hid (fun W => pcheck_any win itv zet W)
 unfold bpV at BL
 by_cases h1 : dep < 0
 ·
  obtain rfl := NO.out (fun h => by have := h.2.1; omega)
  clear YES NO
  unfold bpV
  go_enter Tryz.func29,Tryz.ntmps29
  go_wp2_with fail
  go_ret
  exact ⟨rfl,(by repeat (first | exact Below.refl _ _ | refine below_drewN ?_ _ | refine Below.setCell ?_ (by simp; try omega) _ | refine Below.alloc ?_ (by simp; try omega) _))⟩
 by_cases h2 : 16 < dep
 ·
  obtain rfl := NO.out (fun h => by have := h.2.2.1; omega)
  clear YES NO
  unfold bpV
  go_enter Tryz.func29,Tryz.ntmps29
  go_wp2_with fail
  go_ret
  exact ⟨rfl,(by repeat (first | exact Below.refl _ _ | refine below_drewN ?_ _ | refine Below.setCell ?_ (by simp; try omega) _ | refine Below.alloc ?_ (by simp; try omega) _))⟩
 by_cases h3 : cap < 0
 ·
  obtain rfl := NO.out (fun h => by have := h.2.2.2.1; omega)
  clear YES NO
  unfold bpV
  go_enter Tryz.func29,Tryz.ntmps29
  go_wp2_with fail
  go_ret
  exact ⟨rfl,(by repeat (first | exact Below.refl _ _ | refine below_drewN ?_ _ | refine Below.setCell ?_ (by simp; try omega) _ | refine Below.alloc ?_ (by simp; try omega) _))⟩
 by_cases h4 : 65536 < cap
 ·
  obtain rfl := NO.out (fun h => by have := h.2.2.2.2; omega)
  clear YES NO
  unfold bpV
  go_enter Tryz.func29,Tryz.ntmps29
  go_wp2_with fail
  go_ret
  exact ⟨rfl,(by repeat (first | exact Below.refl _ _ | refine below_drewN ?_ _ | refine Below.setCell ?_ (by simp; try omega) _ | refine Below.alloc ?_ (by simp; try omega) _))⟩
 have E : Hid ((if ParOk win itv zet then (0 : Int) else 1) = k) := Lib.hid (by
  by_cases hp : ParOk win itv zet
  ·rw [if_pos hp,YES.out ⟨hp,by omega,by omega,by omega,by omega⟩]
  ·rw [if_neg hp,NO.out (fun h => hp h.1)])
 rw [E.out] at CK
 clear YES NO
 unfold bpV
 go_enter Tryz.func29,Tryz.ntmps29
 go_wp2_with fail
 have kb : Below w.heap.size w (w.alloc (.cells #[.int .i64 win,.int .i64 dep,.int .i64 itv,.int .i64 zet,.int .i64 cap] 61)) := (by repeat (first | exact Below.refl _ _ | refine below_drewN ?_ _ | refine Below.setCell ?_ (by simp; try omega) _ | refine Below.alloc ?_ (by simp; try omega) _))
 with_reducible refine (BL.out _).mono ?_
 rintro e w1 ⟨rfl,k1⟩
 have K1 := Lib.hid (kb.trans (k1.mono kb.size))
 clear k1 kb
 go_wp2_with fail
 with_reducible refine (CK.out _).mono ?_
 rintro e w2 ⟨rfl,k2⟩
 have K2 := Lib.hid (K1.out.trans (k2.mono K1.out.size))
 clear k2
 go_wp2_with fail
 go_ret
 exact ⟨rfl,K2.out⟩
set_option maxRecDepth 100000 in
set_option maxHeartbeats 3200000 in
theorem dbcheck_any (win dep itv zet cap : Int) (w : World) : Calls Tryz.prog 30 #[bpV win dep itv zet cap] w fun e w' => e = .returned (.int .i64 (if BpOk win dep itv zet cap then 0 else 1)) ∧ Below w.heap.size w w' := by
 obtain ⟨k,hk⟩ : ∃ k : Int,(if BpOk win dep itv zet cap then 0 else 1) = k := ⟨_,rfl⟩
 rw [hk]
 have HK := Lib.hid hk
 clear hk
 have YES : Hid (BpOk win dep itv zet cap -> k = 0) := Lib.hid (fun h => by have := HK.out; rw [if_pos h] at this; exact this.symm)
 have NO : Hid (¬ BpOk win dep itv zet cap -> k = 1) := Lib.hid (fun h => by have := HK.out; rw [if_neg h] at this; exact this.symm)
 clear HK
 have BL := Lib.hid (fun W => dblist_any win dep itv zet cap W)
 have CK := Lib.hid (fun W => dcheck_any win itv zet W)
 unfold bpV at BL
 by_cases hp : ParOk win itv zet
 ·rw [if_pos hp] at CK
  by_cases h1 : dep < 0
  ·
   obtain rfl := NO.out (fun h => by have := h.2.1; omega)
   clear YES NO
   unfold bpV
   go_enter Tryz.func30,Tryz.ntmps30
   go_wp2_with fail
   have kb : Below w.heap.size w (w.alloc (.cells #[.int .i64 win,.int .i64 dep,.int .i64 itv,.int .i64 zet,.int .i64 cap] 56)) := (by repeat (first | exact Below.refl _ _ | refine below_drewN ?_ _ | refine Below.setCell ?_ (by simp; try omega) _ | refine Below.alloc ?_ (by simp; try omega) _))
   have r1 := heap_alloc_new w (.cells #[.int .i64 win,.int .i64 dep,.int .i64 itv,.int .i64 zet,.int .i64 cap] 56)
   with_reducible refine (BL.out _).mono ?_
   rintro e w1 ⟨rfl,k1⟩
   have r1 := (k1.block _ (lt_of_block r1)).trans r1
   have kb := kb.trans (k1.mono kb.size)
   go_wp2_with fail
   with_reducible refine (CK.out _).mono ?_
   rintro e w2 ⟨rfl,k2⟩
   have r1 := (k2.block _ (lt_of_block r1)).trans r1
   have K2 := Lib.hid (kb.trans (k2.mono kb.size))
   have c1 : w2.cell? ⟨w.heap.size,1,none⟩ = some (.int .i64 dep) := by rw [cell_of_row _ _ _ _ _ _ r1]; rfl
   have c4 : w2.cell? ⟨w.heap.size,4,none⟩ = some (.int .i64 cap) := by rw [cell_of_row _ _ _ _ _ _ r1]; rfl
   clear k1 k2 kb r1
   go_wp2_with fail
   go_ret
   exact ⟨rfl,K2.out⟩
  by_cases h2 : 16 < dep
  ·
   obtain rfl := NO.out (fun h => by have := h.2.2.1; omega)
   clear YES NO
   unfold bpV
   go_enter Tryz.func30,Tryz.ntmps30
   go_wp2_with fail
   have kb : Below w.heap.size w (w.alloc (.cells #[.int .i64 win,.int .i64 dep,.int .i64 itv,.int .i64 zet,.int .i64 cap] 56)) := (by repeat (first | exact Below.refl _ _ | refine below_drewN ?_ _ | refine Below.setCell ?_ (by simp; try omega) _ | refine Below.alloc ?_ (by simp; try omega) _))
   have r1 := heap_alloc_new w (.cells #[.int .i64 win,.int .i64 dep,.int .i64 itv,.int .i64 zet,.int .i64 cap] 56)
   with_reducible refine (BL.out _).mono ?_
   rintro e w1 ⟨rfl,k1⟩
   have r1 := (k1.block _ (lt_of_block r1)).trans r1
   have kb := kb.trans (k1.mono kb.size)
   go_wp2_with fail
   with_reducible refine (CK.out _).mono ?_
   rintro e w2 ⟨rfl,k2⟩
   have r1 := (k2.block _ (lt_of_block r1)).trans r1
   have K2 := Lib.hid (kb.trans (k2.mono kb.size))
   have c1 : w2.cell? ⟨w.heap.size,1,none⟩ = some (.int .i64 dep) := by rw [cell_of_row _ _ _ _ _ _ r1]; rfl
   have c4 : w2.cell? ⟨w.heap.size,4,none⟩ = some (.int .i64 cap) := by rw [cell_of_row _ _ _ _ _ _ r1]; rfl
   clear k1 k2 kb r1
   go_wp2_with fail
   go_ret
   exact ⟨rfl,K2.out⟩
  by_cases h3 : cap < 0
  ·
   obtain rfl := NO.out (fun h => by have := h.2.2.2.1; omega)
   clear YES NO
   unfold bpV
   go_enter Tryz.func30,Tryz.ntmps30
   go_wp2_with fail
   have kb : Below w.heap.size w (w.alloc (.cells #[.int .i64 win,.int .i64 dep,.int .i64 itv,.int .i64 zet,.int .i64 cap] 56)) := (by repeat (first | exact Below.refl _ _ | refine below_drewN ?_ _ | refine Below.setCell ?_ (by simp; try omega) _ | refine Below.alloc ?_ (by simp; try omega) _))
   have r1 := heap_alloc_new w (.cells #[.int .i64 win,.int .i64 dep,.int .i64 itv,.int .i64 zet,.int .i64 cap] 56)
   with_reducible refine (BL.out _).mono ?_
   rintro e w1 ⟨rfl,k1⟩
   have r1 := (k1.block _ (lt_of_block r1)).trans r1
   have kb := kb.trans (k1.mono kb.size)
   go_wp2_with fail
   with_reducible refine (CK.out _).mono ?_
   rintro e w2 ⟨rfl,k2⟩
   have r1 := (k2.block _ (lt_of_block r1)).trans r1
   have K2 := Lib.hid (kb.trans (k2.mono kb.size))
   have c1 : w2.cell? ⟨w.heap.size,1,none⟩ = some (.int .i64 dep) := by rw [cell_of_row _ _ _ _ _ _ r1]; rfl
   have c4 : w2.cell? ⟨w.heap.size,4,none⟩ = some (.int .i64 cap) := by rw [cell_of_row _ _ _ _ _ _ r1]; rfl
   clear k1 k2 kb r1
   go_wp2_with fail
   go_ret
   exact ⟨rfl,K2.out⟩
  by_cases h4 : 65536 < cap
  ·
   obtain rfl := NO.out (fun h => by have := h.2.2.2.2; omega)
   clear YES NO
   unfold bpV
   go_enter Tryz.func30,Tryz.ntmps30
   go_wp2_with fail
   have kb : Below w.heap.size w (w.alloc (.cells #[.int .i64 win,.int .i64 dep,.int .i64 itv,.int .i64 zet,.int .i64 cap] 56)) := (by repeat (first | exact Below.refl _ _ | refine below_drewN ?_ _ | refine Below.setCell ?_ (by simp; try omega) _ | refine Below.alloc ?_ (by simp; try omega) _))
   have r1 := heap_alloc_new w (.cells #[.int .i64 win,.int .i64 dep,.int .i64 itv,.int .i64 zet,.int .i64 cap] 56)
   with_reducible refine (BL.out _).mono ?_
   rintro e w1 ⟨rfl,k1⟩
   have r1 := (k1.block _ (lt_of_block r1)).trans r1
   have kb := kb.trans (k1.mono kb.size)
   go_wp2_with fail
   with_reducible refine (CK.out _).mono ?_
   rintro e w2 ⟨rfl,k2⟩
   have r1 := (k2.block _ (lt_of_block r1)).trans r1
   have K2 := Lib.hid (kb.trans (k2.mono kb.size))
   have c1 : w2.cell? ⟨w.heap.size,1,none⟩ = some (.int .i64 dep) := by rw [cell_of_row _ _ _ _ _ _ r1]; rfl
   have c4 : w2.cell? ⟨w.heap.size,4,none⟩ = some (.int .i64 cap) := by rw [cell_of_row _ _ _ _ _ _ r1]; rfl
   clear k1 k2 kb r1
   go_wp2_with fail
   go_ret
   exact ⟨rfl,K2.out⟩
  obtain rfl := YES.out ⟨hp,by omega,by omega,by omega,by omega⟩
  clear YES NO
  unfold bpV
  go_enter Tryz.func30,Tryz.ntmps30
  go_wp2_with fail
  have kb : Below w.heap.size w (w.alloc (.cells #[.int .i64 win,.int .i64 dep,.int .i64 itv,.int .i64 zet,.int .i64 cap] 56)) := (by repeat (first | exact Below.refl _ _ | refine below_drewN ?_ _ | refine Below.setCell ?_ (by simp; try omega) _ | refine Below.alloc ?_ (by simp; try omega) _))
  have r1 := heap_alloc_new w (.cells #[.int .i64 win,.int .i64 dep,.int .i64 itv,.int .i64 zet,.int .i64 cap] 56)
  with_reducible refine (BL.out _).mono ?_
  rintro e w1 ⟨rfl,k1⟩
  have r1 := (k1.block _ (lt_of_block r1)).trans r1
  have kb := kb.trans (k1.mono kb.size)
  go_wp2_with fail
  with_reducible refine (CK.out _).mono ?_
  rintro e w2 ⟨rfl,k2⟩
  have r1 := (k2.block _ (lt_of_block r1)).trans r1
  have K2 := Lib.hid (kb.trans (k2.mono kb.size))
  have c1 : w2.cell? ⟨w.heap.size,1,none⟩ = some (.int .i64 dep) := by rw [cell_of_row _ _ _ _ _ _ r1]; rfl
  have c4 : w2.cell? ⟨w.heap.size,4,none⟩ = some (.int .i64 cap) := by rw [cell_of_row _ _ _ _ _ _ r1]; rfl
  clear k1 k2 kb r1
  go_wp2_with fail
  go_ret
  exact ⟨rfl,K2.out⟩
 ·rw [if_neg hp] at CK
  obtain rfl := NO.out (fun h => hp h.1)
  clear YES NO
  unfold bpV
  go_enter Tryz.func30,Tryz.ntmps30
  go_wp2_with fail
  have kb : Below w.heap.size w (w.alloc (.cells #[.int .i64 win,.int .i64 dep,.int .i64 itv,.int .i64 zet,.int .i64 cap] 56)) := (by repeat (first | exact Below.refl _ _ | refine below_drewN ?_ _ | refine Below.setCell ?_ (by simp; try omega) _ | refine Below.alloc ?_ (by simp; try omega) _))
  have r1 := heap_alloc_new w (.cells #[.int .i64 win,.int .i64 dep,.int .i64 itv,.int .i64 zet,.int .i64 cap] 56)
  with_reducible refine (BL.out _).mono ?_
  rintro e w1 ⟨rfl,k1⟩
  have r1 := (k1.block _ (lt_of_block r1)).trans r1
  have kb := kb.trans (k1.mono kb.size)
  go_wp2_with fail
  with_reducible refine (CK.out _).mono ?_
  rintro e w2 ⟨rfl,k2⟩
  have r1 := (k2.block _ (lt_of_block r1)).trans r1
  have K2 := Lib.hid (kb.trans (k2.mono kb.size))
  have c1 : w2.cell? ⟨w.heap.size,1,none⟩ = some (.int .i64 dep) := by rw [cell_of_row _ _ _ _ _ _ r1]; rfl
  have c4 : w2.cell? ⟨w.heap.size,4,none⟩ = some (.int .i64 cap) := by rw [cell_of_row _ _ _ _ _ _ r1]; rfl
  clear k1 k2 kb r1
  go_wp2_with fail
  go_ret
  exact ⟨rfl,K2.out⟩
def Stands (ls : List (Nat × Obj)) (s : Option Addr) (l : List Nat) : Prop := ∀ W : World, (∀ p ∈ ls, W.heap[p.1]? = some p.2) → LV W s l
theorem Stands.more {ls ls' : List (Nat × Obj)} {s : Option Addr} {l : List Nat} (h : Stands ls s l) (hs : ∀ p ∈ ls, p ∈ ls') : Stands ls' s l := fun W hW => h W (fun p hp => hW p (hs p hp))
def Slot (ls : List (Nat × Obj)) (t : Tk) (v u : Value) : Prop := ∃ s d, v = .slice s t.1.length d ∧ u = .int .i64 (t.2 : Int) ∧ t.1.length ≤ d ∧ Stands ls s t.1
def Ring (T : List Tk) (row : Array Value) (o : Nat) (ls : List (Nat × Obj)) : Prop :=
 o + 35 <= row.size /\ row[o + 34]? = some (.int .i64 (T.length : Int)) /\ (∀ k,k < 17 -> ∃ s n d c,row[o + 2 * k]? = some (.slice s n d) /\ row[o + 2 * k + 1]? = some (.int .i64 c)) /\
 ∀ j (h : j < T.length),T.length <= j + 17 -> ∃ v u,row[o + 2 * (j % 17)]? = some v /\ row[o + 2 * (j % 17) + 1]? = some u /\ Slot ls T[j] v u
theorem Ring.more {T : List Tk} {row : Array Value} {o : Nat} {ls ls' : List (Nat × Obj)} (h : Ring T row o ls) (hs : ∀ p ∈ ls, p ∈ ls') : Ring T row o ls' := by
 obtain ⟨h1,h2,h3,h4⟩ := h
 refine ⟨h1,h2,h3,fun j hj hl => ?_⟩
 obtain ⟨v,u,e1,e2,s,d,e3,e4,e5,e6⟩ := h4 j hj hl
 exact ⟨v,u,e1,e2,s,d,e3,e4,e5,e6.more hs⟩
def BackP (b : Bp) (T : List Tk) (ref : Int) (size : Nat) (ls : List (Nat × Obj)) (w : World) (e : Ending) (w' : World) : Prop :=
 Below w.heap.size w w' /\ ∃ v u bb,e = .returned (.tuple #[.agg #[v,u],.bool bb]) /\ (∃ s n d c,v = .slice s n d /\ u = .int .i64 c) /\ (match (if 0 <= ref then backB b T ref.toNat size else none) with | none => bb = false | some t => bb = true /\ Slot ls t v u)
theorem set2 {W w : World} {b z : Nat} {x y : Value} {T : TypeId} (u v : Value) (h : W.heap[b]? = some (.cells #[x, y] T (0, 0))) (hb : z ≤ b) (k : Below z w W) :
  ((W.setCell ⟨b,0,none⟩ u).setCell ⟨b,1,none⟩ v).heap[b]? = some (.cells #[u,v] T (0,0)) /\ Below z w ((W.setCell ⟨b,0,none⟩ u).setCell ⟨b,1,none⟩ v) := by
 have h1 := heap_setCell_same W b 0 _ _ u h
 have h2 := heap_setCell_same _ b 1 _ _ v h1
 exact ⟨h2,(k.setCell hb u).setCell hb v⟩
set_option maxRecDepth 100000 in
set_option maxHeartbeats 6400000 in
theorem back_any (b : Bp) (T : List Tk) (ref : Int) (size : Nat) (ls : List (Nat × Obj)) (w : World) (rb o : Nat) (row : Array Value) (U : TypeId) (hrow : w.heap[rb]? = some (.cells row U (0, 0))) (hR : Ring T row o ls) (hT : T.length ≤ 65536) (hb : b.p.win ≤ 16) (hsz : size ≤ 4611686018427387903) (hls : ∀ t ∈ T, t.1.length ≤ 65536) :
  Calls Tryz.prog 68 #[.pointer (some ⟨rb,o,none⟩),.int .i64 ref,.int .i64 (size : Int),bpV (b.p.win : Int) (b.depth : Int) (b.p.itv : Int) (b.p.zet : Int) (b.cap : Int)] w (BackP b T ref size ls w) := by
 have NO : Hid ((ref < 1 \/ (T.length : Int) < ref \/ (b.p.win : Int) < ref) -> ∀ w', Below w.heap.size w w' -> BackP b T ref size ls w (.returned (.tuple #[.agg #[.slice none 0 0,.int .i64 0],.bool false])) w') := Lib.hid (fun hno w' k => ⟨k,_,_,false,rfl,⟨none,0,0,0,rfl,rfl⟩,by
  have e : (if 0 <= ref then backB b T ref.toNat size else none) = none := by
   split
   ·unfold backB
    rw [if_neg (fun h => by omega)]
   ·rfl
  rw [e]⟩)
 have c0 : w.cell? ⟨rb,o + 34,none⟩ = some (.int .i64 (T.length : Int)) := by rw [cell_of_row _ _ _ _ _ _ hrow]; exact hR.2.1
 have hlt := lt_of_block hrow
 have HR := Lib.hid (And.intro hrow hR)
 have HT := Lib.hid (show T.length = T.length from rfl)
 have HLS := Lib.hid hls
 obtain ⟨nt,hnt⟩ : ∃ n,T.length = n := ⟨_,rfl⟩
 obtain ⟨wn,hwn⟩ : ∃ n,b.p.win = n := ⟨_,rfl⟩
 have HN := Lib.hid (And.intro hnt hwn)
 rw [hnt] at c0 hT NO
 rw [hwn] at hb NO ⊢
 clear hrow hR hnt hwn hls
 unfold bpV
 go_enter Tryz.func68,Tryz.ntmps68
 go_upto_region 1 with fail
 generalize hW : World.alloc (World.alloc w _) _ = W1
 obtain ⟨r1,r2,kb⟩ := rows2 hW
 have p0 : W1.cell? ⟨w.heap.size,0,none⟩ = some (.int .i64 (wn : Int)) := by rw [cell_of_row _ _ _ _ _ _ r1]; rfl
 have c0 : W1.cell? ⟨rb,o + 34,none⟩ = some (.int .i64 (nt : Int)) := (kb.cell hlt).trans c0
 have R12 := Lib.hid (And.intro r1 (And.intro r2 kb))
 clear hW r1 r2 kb
 obtain ⟨wz,hwz⟩ : ∃ z,w.heap.size = z := ⟨_,rfl⟩
 rw [hwz] at R12 p0 hlt ⊢
 have F1 : ∀ q j,(W1.drewN q).frozen? ⟨wz + 1,j,none⟩ = false := fun q j => frozen_of_row (W1.drewN q) (wz + 1) j _ _ R12.out.2.1
 by_cases h1 : ref < 1
 ·have i1 : decide (ref < 1) = true := decide_eq_true h1
  go_quiet (fail)
  have R3 : Hid ((W1.drewN nq).heap[wz + 1]? = some (.cells #[.slice none 0 0,.int .i64 0] 123 (0,0)) /\ Below wz w (W1.drewN nq)) := Lib.hid ⟨R12.out.2.1,R12.out.2.2.trans ⟨rfl,rfl,rfl,Nat.le_refl _,fun _ _ => rfl⟩⟩
  have f1 := F1 nq 0
  have f2 := F1 nq 1
  have q0 : (W1.drewN nq).cell? ⟨wz + 1,0,none⟩ = some (.slice none 0 0) := by rw [cell_of_row _ _ _ _ _ _ R3.out.1]; rfl
  have q1 : (W1.drewN nq).cell? ⟨wz + 1,1,none⟩ = some (.int .i64 0) := by rw [cell_of_row _ _ _ _ _ _ R3.out.1]; rfl
  generalize W1.drewN nq = W2 at R3 f1 f2 q0 q1 ⊢
  clear F1 R12 c0 p0
  go_wp2_with fail
  obtain ⟨r8,k8⟩ := set2 (.slice none 0 0) (.int .i64 0) R3.out.1 (Nat.le_succ _) R3.out.2
  generalize hW8 : World.setCell (World.setCell W2 _ _) _ _ = W8 at r8 k8 ⊢
  have q0' : W8.cell? ⟨wz + 1,0,none⟩ = some (.slice none 0 0) := by rw [cell_of_row _ _ _ _ _ _ r8]; rfl
  have q1' : W8.cell? ⟨wz + 1,1,none⟩ = some (.int .i64 0) := by rw [cell_of_row _ _ _ _ _ _ r8]; rfl
  clear hW8 f1 f2 q0 q1
  exact bodyPost_ret (v := .tuple #[.agg #[.slice none 0 0,.int .i64 0],.bool false]) (by simp [results,Tryz.results68,go_sem,q0', q1']) rfl (NO.out (.inl h1) W8 (by rw [hwz]; exact k8))
 ·have i1 : decide (ref < 1) = false := decide_eq_false h1
  obtain ⟨mn,hmn⟩ : ∃ z,min (nt : Int) (wn : Int) = z := ⟨_,rfl⟩
  by_cases h2 : mn < ref
  ·have i2 : decide (mn < ref) = true := decide_eq_true h2
   go_quiet (fail)
   have R3 : Hid ((W1.drewN nq).heap[wz + 1]? = some (.cells #[.slice none 0 0,.int .i64 0] 123 (0,0)) /\ Below wz w (W1.drewN nq)) := Lib.hid ⟨R12.out.2.1,R12.out.2.2.trans ⟨rfl,rfl,rfl,Nat.le_refl _,fun _ _ => rfl⟩⟩
   have f1 := F1 nq 0
   have f2 := F1 nq 1
   have q0 : (W1.drewN nq).cell? ⟨wz + 1,0,none⟩ = some (.slice none 0 0) := by rw [cell_of_row _ _ _ _ _ _ R3.out.1]; rfl
   have q1 : (W1.drewN nq).cell? ⟨wz + 1,1,none⟩ = some (.int .i64 0) := by rw [cell_of_row _ _ _ _ _ _ R3.out.1]; rfl
   generalize W1.drewN nq = W2 at R3 f1 f2 q0 q1 ⊢
   clear F1 R12 c0 p0
   go_wp2_with fail
   obtain ⟨r8,k8⟩ := set2 (.slice none 0 0) (.int .i64 0) R3.out.1 (Nat.le_succ _) R3.out.2
   generalize hW8 : World.setCell (World.setCell W2 _ _) _ _ = W8 at r8 k8 ⊢
   have q0' : W8.cell? ⟨wz + 1,0,none⟩ = some (.slice none 0 0) := by rw [cell_of_row _ _ _ _ _ _ r8]; rfl
   have q1' : W8.cell? ⟨wz + 1,1,none⟩ = some (.int .i64 0) := by rw [cell_of_row _ _ _ _ _ _ r8]; rfl
   clear hW8 f1 f2 q0 q1
   exact bodyPost_ret (v := .tuple #[.agg #[.slice none 0 0,.int .i64 0],.bool false]) (by simp [results,Tryz.results68,go_sem,q0', q1']) rfl (NO.out (by omega) W8 (by rw [hwz]; exact k8))
  ·have i2 : decide (mn < ref) = false := decide_eq_false h2
   obtain ⟨rn,hrn⟩ : ∃ n : Nat,ref = (n : Int) := ⟨ref.toNat,by omega⟩
   subst hrn
   have hr1 : 1 <= rn := by omega
   have hrt : rn <= nt := by omega
   have hrw : rn <= wn := by omega
   go_quiet (fail)
   obtain ⟨m,hm⟩ : ∃ m,nt - rn = m := ⟨_,rfl⟩
   have hmT : m < T.length := by rw [HN.out.1]; omega
   obtain ⟨kk,hkk⟩ : ∃ k,m % 17 = k := ⟨_,rfl⟩
   have hk17 : kk < 17 := by omega
   obtain ⟨v,u,e1,e2,s,d,rfl,rfl,hsd,hst⟩ := HR.out.2.2.2.2 m hmT (by rw [HN.out.1]; omega)
   rw [hkk] at e1 e2
   have ET : Hid (tkOf T rn = T[m]) := Lib.hid (by
    unfold tkOf
    rw [HN.out.1,hm,List.getD_eq_getElem?_getD,List.getElem?_eq_getElem hmT]
    rfl)
   have HLm := HLS.out _ (List.getElem_mem hmT)
   obtain ⟨t,ht⟩ : ∃ t,T[m] = t := ⟨_,rfl⟩
   rw [ht] at e1 e2 ET hsd hst HLm
   obtain ⟨tl,tc⟩ := t
   dsimp only at e1 e2 hsd hst HLm
   obtain ⟨ln,hln⟩ : ∃ n,tl.length = n := ⟨_,rfl⟩
   rw [hln] at e1 hsd HLm
   have HST := Lib.hid (And.intro hst hln)
   have c1 : W1.cell? ⟨rb,o + kk * 2,none⟩ = some (.slice s ln d) := by rw [cell_of_row _ _ _ _ _ _ ((R12.out.2.2.block rb hlt).trans HR.out.1),Nat.mul_comm]; exact e1
   have c2 : W1.cell? ⟨rb,o + kk * 2 + 1,none⟩ = some (.int .i64 (tc : Int)) := by rw [cell_of_row _ _ _ _ _ _ ((R12.out.2.2.block rb hlt).trans HR.out.1),Nat.mul_comm]; exact e2
   have w1 : IntKind.i64.wrap ((nt : Int) - (rn : Int)) = (m : Int) := by rw [IntWalk.i64_in _ (by omega)]; omega
   have w2 : Int.tmod (m : Int) 17 = (kk : Int) := by rw [Int.tmod_eq_emod_of_nonneg (by omega)]; omega
   clear hst hln ht hm hmn
   have R3 : Hid (Below wz w (W1.drewN nq) /\ (W1.drewN nq).heap[wz]? = some (.cells #[.int .i64 (wn : Int),.int .i64 (b.depth : Int),.int .i64 (b.p.itv : Int),.int .i64 (b.p.zet : Int),.int .i64 (b.cap : Int)] 61 (0,0)) /\ (W1.drewN nq).heap[wz + 1]? = some (.cells #[.slice none 0 0,.int .i64 0] 123 (0,0))) := Lib.hid ⟨R12.out.2.2.trans ⟨rfl,rfl,rfl,Nat.le_refl _,fun _ _ => rfl⟩,R12.out.1,R12.out.2.1⟩
   have c0 : (W1.drewN nq).cell? ⟨rb,o + 34,none⟩ = some (.int .i64 (nt : Int)) := c0
   have c1 : (W1.drewN nq).cell? ⟨rb,o + kk * 2,none⟩ = some (.slice s ln d) := c1
   have c2 : (W1.drewN nq).cell? ⟨rb,o + kk * 2 + 1,none⟩ = some (.int .i64 (tc : Int)) := c2
   generalize W1.drewN nq = W2 at R3 c0 c1 c2 ⊢
   clear F1 R12 p0
   go_upto_region 3 with fail
   have c0 : W2.drew.cell? ⟨rb,o + 34,none⟩ = some (.int .i64 (nt : Int)) := c0
   have c1 : W2.drew.cell? ⟨rb,o + kk * 2,none⟩ = some (.slice s ln d) := c1
   have c2 : W2.drew.cell? ⟨rb,o + kk * 2 + 1,none⟩ = some (.int .i64 (tc : Int)) := c2
   have hkI : (kk : Int) < 17 := by omega
   have hk0 : (0 : Int) <= (kk : Int) := Int.natCast_nonneg _
   have KA : Below W2.heap.size W2 (W2.alloc (.cells #[.slice none 0 0,.int .i64 0] 123)) := (Below.refl _ _).alloc (Nat.le_refl _) _
   have d0 : (W2.alloc (.cells #[.slice none 0 0,.int .i64 0] 123)).drew.cell? ⟨rb,o + 34,none⟩ = some (.int .i64 (nt : Int)) := (KA.cell (World.block_lt_of_cell? _ _ c0)).trans c0
   have d1 : (W2.alloc (.cells #[.slice none 0 0,.int .i64 0] 123)).drew.cell? ⟨rb,o + kk * 2,none⟩ = some (.slice s ln d) := (KA.cell (World.block_lt_of_cell? _ _ c1)).trans c1
   have d2 : (W2.alloc (.cells #[.slice none 0 0,.int .i64 0] 123)).drew.cell? ⟨rb,o + kk * 2 + 1,none⟩ = some (.int .i64 (tc : Int)) := (KA.cell (World.block_lt_of_cell? _ _ c2)).trans c2
   have rz := heap_alloc_new W2 (.cells #[.slice none 0 0,.int .i64 0] 123)
   have g0 : (W2.alloc (.cells #[.slice none 0 0,.int .i64 0] 123)).drew.cell? ⟨W2.heap.size,0,none⟩ = some (.slice none 0 0) := by
    show (W2.alloc (.cells #[.slice none 0 0,.int .i64 0] 123)).cell? _ = _
    rw [cell_of_row _ _ _ _ _ _ rz]; rfl
   have g1 : (W2.alloc (.cells #[.slice none 0 0,.int .i64 0] 123)).drew.cell? ⟨W2.heap.size,1,none⟩ = some (.int .i64 0) := by
    show (W2.alloc (.cells #[.slice none 0 0,.int .i64 0] 123)).cell? _ = _
    rw [cell_of_row _ _ _ _ _ _ rz]; rfl
   have f0 : ∀ j,(W2.alloc (.cells #[.slice none 0 0,.int .i64 0] 123)).drew.frozen? ⟨W2.heap.size,j,none⟩ = false := fun j => frozen_of_row (W2.alloc (.cells #[.slice none 0 0,.int .i64 0] 123)) _ j _ _ rz
   have f00 := f0 0
   have f01 := f0 1
   go_region
   generalize hW3 : (W2.alloc (.cells #[.slice s ln d,.int .i64 (tc : Int)] 123)).drew = W3
   have R4 : Hid (Below wz w W3 /\ W3.heap[wz]? = some (.cells #[.int .i64 (wn : Int),.int .i64 (b.depth : Int),.int .i64 (b.p.itv : Int),.int .i64 (b.p.zet : Int),.int .i64 (b.cap : Int)] 61 (0,0)) /\ W3.heap[wz + 1]? = some (.cells #[.slice none 0 0,.int .i64 0] 123 (0,0)) /\ W3.heap[W2.heap.size]? = some (.cells #[.slice s ln d,.int .i64 (tc : Int)] 123 (0,0))) := Lib.hid (by
    subst hW3
    have ka : Below W2.heap.size W2 (W2.alloc (.cells #[.slice s ln d,.int .i64 (tc : Int)] 123)) := (Below.refl _ _).alloc (Nat.le_refl _) _
    obtain ⟨h1,h2,h3⟩ := R3.out
    exact ⟨Below.drew (h1.trans (ka.mono (by have := h1.size; omega))),(ka.block _ (lt_of_block h2)).trans h2,(ka.block _ (lt_of_block h3)).trans h3,heap_alloc_new W2 _⟩)
   have htb2 : wz + 1 < W2.heap.size := lt_of_block R3.out.2.2
   obtain ⟨tb,htb⟩ : ∃ z,W2.heap.size = z := ⟨_,rfl⟩
   rw [htb] at R4 htb2 ⊢
   obtain ⟨dp,hdp⟩ : ∃ z,b.depth = z := ⟨_,rfl⟩
   obtain ⟨cp,hcp⟩ : ∃ z,b.cap = z := ⟨_,rfl⟩
   have FIN : Hid (∀ bb W8,Below wz w W8 -> (bb = true ↔ (0 < ln /\ ln <= cp /\ 0 < size /\ size <= cp /\ tc < dp)) -> BackP b T (rn : Int) size ls w (.returned (.tuple #[.agg #[.slice s ln d,.int .i64 (tc : Int)],.bool bb])) W8) := Lib.hid (fun bb W8 k hb => by
    refine ⟨by rw [hwz]; exact k,_,_,bb,rfl,⟨s,ln,d,tc,rfl,rfl⟩,?_⟩
    rw [if_pos (Int.natCast_nonneg _),Int.toNat_natCast]
    unfold backB
    rw [ET.out]
    by_cases hm : tkMay b (tl,tc) size
    ·rw [if_pos ⟨⟨hr1,by rw [HN.out.1]; exact hrt,by rw [HN.out.2]; exact hrw⟩,hm⟩]
     have hm2 := hm
     unfold tkMay at hm2
     dsimp only at hm2
     rw [HST.out.2,hdp,hcp] at hm2
     exact ⟨hb.2 hm2,s,d,by rw [HST.out.2],rfl,by rw [HST.out.2]; exact hsd,HST.out.1⟩
    ·rw [if_neg (fun h => hm h.2)]
     unfold tkMay at hm
     dsimp only at hm
     rw [HST.out.2,hdp,hcp] at hm
     cases bb with
     | false => rfl
     | true => exact absurd (hb.1 rfl) hm)
   rw [hdp,hcp] at R4 ⊢
   clear hW3 htb hdp hcp R3 KA c0 c1 c2 d0 d1 d2 rz g0 g1 f0 f00 f01 w1 w2 e1 e2 hkI hk0 ET HST HR HN NO HLS h1 h2 i1 i2 hlt hk17 hkk hmT hr1 hrt hrw
   have c0 : W3.drew.cell? ⟨wz,1,none⟩ = some (.int .i64 (dp : Int)) := by
    show W3.cell? _ = _
    rw [cell_of_row _ _ _ _ _ _ R4.out.2.1]; rfl
   have c1 : W3.drew.cell? ⟨wz,4,none⟩ = some (.int .i64 (cp : Int)) := by
    show W3.cell? _ = _
    rw [cell_of_row _ _ _ _ _ _ R4.out.2.1]; rfl
   have c2 : W3.drew.cell? ⟨wz + 1,0,none⟩ = some (.slice none 0 0) := by
    show W3.cell? _ = _
    rw [cell_of_row _ _ _ _ _ _ R4.out.2.2.1]; rfl
   have c3 : W3.drew.cell? ⟨wz + 1,1,none⟩ = some (.int .i64 0) := by
    show W3.cell? _ = _
    rw [cell_of_row _ _ _ _ _ _ R4.out.2.2.1]; rfl
   have c4 : W3.drew.cell? ⟨tb,0,none⟩ = some (.slice s ln d) := by
    show W3.cell? _ = _
    rw [cell_of_row _ _ _ _ _ _ R4.out.2.2.2]; rfl
   have c5 : W3.drew.cell? ⟨tb,1,none⟩ = some (.int .i64 (tc : Int)) := by
    show W3.cell? _ = _
    rw [cell_of_row _ _ _ _ _ _ R4.out.2.2.2]; rfl
   have f0 : W3.drew.frozen? ⟨wz + 1,0,none⟩ = false := frozen_of_row W3 _ 0 _ _ R4.out.2.2.1
   have f1 : W3.drew.frozen? ⟨wz + 1,1,none⟩ = false := frozen_of_row W3 _ 1 _ _ R4.out.2.2.1
   have c2w : W3.cell? ⟨wz + 1,0,none⟩ = some (.slice none 0 0) := c2
   have c3w : W3.cell? ⟨wz + 1,1,none⟩ = some (.int .i64 0) := c3
   have f0w : W3.frozen? ⟨wz + 1,0,none⟩ = false := f0
   have f1w : W3.frozen? ⟨wz + 1,1,none⟩ = false := f1
   have WS : ∀ (g j : Nat) (v : Value),g ≠ wz + 1 -> W3.cell? ⟨g,j,none⟩ = some v -> (World.drew (World.setCell (World.setCell W3 ⟨wz + 1,0,none⟩ (.slice s ln d)) ⟨wz + 1,1,none⟩ (.int .i64 (tc : Int)))).cell? ⟨g,j,none⟩ = some v := fun g j v hg h => by
    refine (World.cell?_of_block (a := ⟨g,j,none⟩) ?_).trans h
    show (World.setCell (World.setCell W3 _ _) _ _).heap[g]? = _
    rw [Below.heap_setCell _ _ _ _ hg,Below.heap_setCell _ _ _ _ hg]
   have s0 := WS wz 1 _ (by omega) c0
   have s1 := WS wz 4 _ (by omega) c1
   have s4 := WS tb 0 _ (by omega) c4
   have s5 := WS tb 1 _ (by omega) c5
   clear WS
   have KD : Hid (Below wz w W3 /\ W3.heap[wz + 1]? = some (.cells #[.slice none 0 0,.int .i64 0] 123 (0,0))) := Lib.hid ⟨R4.out.1,R4.out.2.2.1⟩
   clear R4
   by_cases j0 : 0 < ln
   ·have i0 : decide ((0 : Int) < (ln : Int)) = true := decide_eq_true (by omega)
    have i0n : decide (0 < ln) = true := decide_eq_true j0
    by_cases j1 : ln <= cp
    ·have i1 : decide ((ln : Int) <= (cp : Int)) = true := decide_eq_true (by omega)
     have i1n : decide (ln <= cp) = true := decide_eq_true j1
     by_cases j2 : 0 < size
     ·have i2 : decide ((0 : Int) < (size : Int)) = true := decide_eq_true (by omega)
      have i2n : decide (0 < size) = true := decide_eq_true j2
      by_cases j3 : size <= cp
      ·have i3 : decide ((size : Int) <= (cp : Int)) = true := decide_eq_true (by omega)
       have i3n : decide (size <= cp) = true := decide_eq_true j3
       by_cases j4 : tc < dp
       ·have i4 : decide ((tc : Int) < (dp : Int)) = true := decide_eq_true (by omega)
        have i4n : decide (tc < dp) = true := decide_eq_true j4
        --M1
        go_upto_region 4 with fail
        go_big_region
        obtain ⟨r8,k8⟩ := set2 (.slice s ln d) (.int .i64 (tc : Int)) KD.out.2 (Nat.le_succ _) KD.out.1
        have k8 := Below.drew k8
        have r8 : (World.drew (World.setCell (World.setCell W3 ⟨wz + 1,0,none⟩ (.slice s ln d)) ⟨wz + 1,1,none⟩ (.int .i64 (tc : Int)))).heap[wz + 1]? = some (.cells #[.slice s ln d,.int .i64 (tc : Int)] 123 (0,0)) := r8
        generalize hW8 : World.drew (World.setCell (World.setCell W3 _ _) _ _) = W8 at r8 k8 ⊢
        have q0' : W8.cell? ⟨wz + 1,0,none⟩ = some (.slice s ln d) := by rw [cell_of_row _ _ _ _ _ _ r8]; rfl
        have q1' : W8.cell? ⟨wz + 1,1,none⟩ = some (.int .i64 (tc : Int)) := by rw [cell_of_row _ _ _ _ _ _ r8]; rfl
        clear f0 f1 c0 c1 c2 c3 c4 c5 c2w c3w f0w f1w s0 s1 s4 s5 hW8
        go_wp2_with fail
        exact bodyPost_ret (v := .tuple #[.agg #[.slice s ln d,.int .i64 (tc : Int)],.bool true]) (by simp [results,Tryz.results68,go_sem,q0', q1']) rfl (FIN.out true W8 k8 ⟨fun _ => ⟨j0,j1,j2,j3,j4⟩,fun _ => rfl⟩)
       ·have i4 : decide ((tc : Int) < (dp : Int)) = false := decide_eq_false (by omega)
        have i4n : decide (tc < dp) = false := decide_eq_false j4
        --M2
        go_upto_region 4 with fail
        go_big_region
        obtain ⟨r8,k8⟩ := set2 (.slice s ln d) (.int .i64 (tc : Int)) KD.out.2 (Nat.le_succ _) KD.out.1
        have k8 := Below.drew k8
        have r8 : (World.drew (World.setCell (World.setCell W3 ⟨wz + 1,0,none⟩ (.slice s ln d)) ⟨wz + 1,1,none⟩ (.int .i64 (tc : Int)))).heap[wz + 1]? = some (.cells #[.slice s ln d,.int .i64 (tc : Int)] 123 (0,0)) := r8
        generalize hW8 : World.drew (World.setCell (World.setCell W3 _ _) _ _) = W8 at r8 k8 ⊢
        have q0' : W8.cell? ⟨wz + 1,0,none⟩ = some (.slice s ln d) := by rw [cell_of_row _ _ _ _ _ _ r8]; rfl
        have q1' : W8.cell? ⟨wz + 1,1,none⟩ = some (.int .i64 (tc : Int)) := by rw [cell_of_row _ _ _ _ _ _ r8]; rfl
        clear f0 f1 c0 c1 c2 c3 c4 c5 c2w c3w f0w f1w s0 s1 s4 s5 hW8
        go_wp2_with fail
        exact bodyPost_ret (v := .tuple #[.agg #[.slice s ln d,.int .i64 (tc : Int)],.bool false]) (by simp [results,Tryz.results68,go_sem,q0', q1']) rfl (FIN.out false W8 k8 ⟨fun h => (by cases h),fun h => absurd h.2.2.2.2 j4⟩)
      ·have i3 : decide ((size : Int) <= (cp : Int)) = false := decide_eq_false (by omega)
       have i3n : decide (size <= cp) = false := decide_eq_false j3
       --M3
       go_upto_region 4 with fail
       go_big_region
       obtain ⟨r8,k8⟩ := set2 (.slice s ln d) (.int .i64 (tc : Int)) KD.out.2 (Nat.le_succ _) KD.out.1
       have k8 := Below.drew k8
       have r8 : (World.drew (World.setCell (World.setCell W3 ⟨wz + 1,0,none⟩ (.slice s ln d)) ⟨wz + 1,1,none⟩ (.int .i64 (tc : Int)))).heap[wz + 1]? = some (.cells #[.slice s ln d,.int .i64 (tc : Int)] 123 (0,0)) := r8
       generalize hW8 : World.drew (World.setCell (World.setCell W3 _ _) _ _) = W8 at r8 k8 ⊢
       have q0' : W8.cell? ⟨wz + 1,0,none⟩ = some (.slice s ln d) := by rw [cell_of_row _ _ _ _ _ _ r8]; rfl
       have q1' : W8.cell? ⟨wz + 1,1,none⟩ = some (.int .i64 (tc : Int)) := by rw [cell_of_row _ _ _ _ _ _ r8]; rfl
       clear f0 f1 c0 c1 c2 c3 c4 c5 c2w c3w f0w f1w s0 s1 s4 s5 hW8
       go_wp2_with fail
       exact bodyPost_ret (v := .tuple #[.agg #[.slice s ln d,.int .i64 (tc : Int)],.bool false]) (by simp [results,Tryz.results68,go_sem,q0', q1']) rfl (FIN.out false W8 k8 ⟨fun h => (by cases h),fun h => absurd h.2.2.2.1 j3⟩)
     ·have i2 : decide ((0 : Int) < (size : Int)) = false := decide_eq_false (by omega)
      have i2n : decide (0 < size) = false := decide_eq_false j2
      --M4
      go_upto_region 4 with fail
      go_big_region
      obtain ⟨r8,k8⟩ := set2 (.slice s ln d) (.int .i64 (tc : Int)) KD.out.2 (Nat.le_succ _) KD.out.1
      have k8 := Below.drew k8
      have r8 : (World.drew (World.setCell (World.setCell W3 ⟨wz + 1,0,none⟩ (.slice s ln d)) ⟨wz + 1,1,none⟩ (.int .i64 (tc : Int)))).heap[wz + 1]? = some (.cells #[.slice s ln d,.int .i64 (tc : Int)] 123 (0,0)) := r8
      generalize hW8 : World.drew (World.setCell (World.setCell W3 _ _) _ _) = W8 at r8 k8 ⊢
      have q0' : W8.cell? ⟨wz + 1,0,none⟩ = some (.slice s ln d) := by rw [cell_of_row _ _ _ _ _ _ r8]; rfl
      have q1' : W8.cell? ⟨wz + 1,1,none⟩ = some (.int .i64 (tc : Int)) := by rw [cell_of_row _ _ _ _ _ _ r8]; rfl
      clear f0 f1 c0 c1 c2 c3 c4 c5 c2w c3w f0w f1w s0 s1 s4 s5 hW8
      go_wp2_with fail
      exact bodyPost_ret (v := .tuple #[.agg #[.slice s ln d,.int .i64 (tc : Int)],.bool false]) (by simp [results,Tryz.results68,go_sem,q0', q1']) rfl (FIN.out false W8 k8 ⟨fun h => (by cases h),fun h => absurd h.2.2.1 j2⟩)
    ·have i1 : decide ((ln : Int) <= (cp : Int)) = false := decide_eq_false (by omega)
     have i1n : decide (ln <= cp) = false := decide_eq_false j1
     --M5
     go_upto_region 4 with fail
     go_big_region
     obtain ⟨r8,k8⟩ := set2 (.slice s ln d) (.int .i64 (tc : Int)) KD.out.2 (Nat.le_succ _) KD.out.1
     have k8 := Below.drew k8
     have r8 : (World.drew (World.setCell (World.setCell W3 ⟨wz + 1,0,none⟩ (.slice s ln d)) ⟨wz + 1,1,none⟩ (.int .i64 (tc : Int)))).heap[wz + 1]? = some (.cells #[.slice s ln d,.int .i64 (tc : Int)] 123 (0,0)) := r8
     generalize hW8 : World.drew (World.setCell (World.setCell W3 _ _) _ _) = W8 at r8 k8 ⊢
     have q0' : W8.cell? ⟨wz + 1,0,none⟩ = some (.slice s ln d) := by rw [cell_of_row _ _ _ _ _ _ r8]; rfl
     have q1' : W8.cell? ⟨wz + 1,1,none⟩ = some (.int .i64 (tc : Int)) := by rw [cell_of_row _ _ _ _ _ _ r8]; rfl
     clear f0 f1 c0 c1 c2 c3 c4 c5 c2w c3w f0w f1w s0 s1 s4 s5 hW8
     go_wp2_with fail
     exact bodyPost_ret (v := .tuple #[.agg #[.slice s ln d,.int .i64 (tc : Int)],.bool false]) (by simp [results,Tryz.results68,go_sem,q0', q1']) rfl (FIN.out false W8 k8 ⟨fun h => (by cases h),fun h => absurd h.2.1 j1⟩)
   ·have i0 : decide ((0 : Int) < (ln : Int)) = false := decide_eq_false (by omega)
    have i0n : decide (0 < ln) = false := decide_eq_false j0
    --M6
    go_upto_region 4 with fail
    go_big_region
    obtain ⟨r8,k8⟩ := set2 (.slice s ln d) (.int .i64 (tc : Int)) KD.out.2 (Nat.le_succ _) KD.out.1
    have k8 := Below.drew k8
    have r8 : (World.drew (World.setCell (World.setCell W3 ⟨wz + 1,0,none⟩ (.slice s ln d)) ⟨wz + 1,1,none⟩ (.int .i64 (tc : Int)))).heap[wz + 1]? = some (.cells #[.slice s ln d,.int .i64 (tc : Int)] 123 (0,0)) := r8
    generalize hW8 : World.drew (World.setCell (World.setCell W3 _ _) _ _) = W8 at r8 k8 ⊢
    have q0' : W8.cell? ⟨wz + 1,0,none⟩ = some (.slice s ln d) := by rw [cell_of_row _ _ _ _ _ _ r8]; rfl
    have q1' : W8.cell? ⟨wz + 1,1,none⟩ = some (.int .i64 (tc : Int)) := by rw [cell_of_row _ _ _ _ _ _ r8]; rfl
    clear f0 f1 c0 c1 c2 c3 c4 c5 c2w c3w f0w f1w s0 s1 s4 s5 hW8
    go_wp2_with fail
    exact bodyPost_ret (v := .tuple #[.agg #[.slice s ln d,.int .i64 (tc : Int)],.bool false]) (by simp [results,Tryz.results68,go_sem,q0', q1']) rfl (FIN.out false W8 k8 ⟨fun h => (by cases h),fun h => absurd h.1 j0⟩)
def putRow (row : Array Value) (o n : Nat) (v : Value) (c : Int) : Array Value := ((row.setIfInBounds (o + n % 17 * 2) v).setIfInBounds (o + n % 17 * 2 + 1) (.int .i64 c)).setIfInBounds (o + 34) (.int .i64 ((n + 1 : Nat) : Int))
theorem putRow_get {row : Array Value} {o n : Nat} {v : Value} {c : Int} (j : Nat) (h : j < row.size) : (putRow row o n v c)[j]? = if j = o + 34 then some (.int .i64 ((n + 1 : Nat) : Int)) else if j = o + n % 17 * 2 + 1 then some (.int .i64 c) else if j = o + n % 17 * 2 then some v else row[j]? := by
 unfold putRow
 rw [Array.getElem?_setIfInBounds,Array.getElem?_setIfInBounds,Array.getElem?_setIfInBounds]
 simp only [Array.size_setIfInBounds]
 by_cases h1 : o + 34 = j
 ·subst h1; rw [if_pos rfl,if_pos h,if_pos rfl]
 ·rw [if_neg h1,if_neg (show ¬ j = o + 34 from fun e => h1 e.symm)]
  by_cases h2 : o + n % 17 * 2 + 1 = j
  ·subst h2; rw [if_pos rfl,if_pos h,if_pos rfl]
  ·rw [if_neg h2,if_neg (show ¬ j = o + n % 17 * 2 + 1 from fun e => h2 e.symm)]
   by_cases h3 : o + n % 17 * 2 = j
   ·subst h3; rw [if_pos rfl,if_pos h,if_pos rfl]
   ·rw [if_neg h3,if_neg (show ¬ j = o + n % 17 * 2 from fun e => h3 e.symm)]
theorem putRow_size {row : Array Value} {o n : Nat} {v : Value} {c : Int} : (putRow row o n v c).size = row.size := by unfold putRow; simp
theorem Ring.put {T : List Tk} {row : Array Value} {o : Nat} {ls : List (Nat × Obj)} (h : Ring T row o ls) (t : Tk) (s : Option Addr) (d : Nat) (hd : t.1.length ≤ d) (hst : Stands ls s t.1) : Ring (T ++ [t]) (putRow row o T.length (.slice s t.1.length d) (t.2 : Int)) o ls := by
 obtain ⟨h1,h2,h3,h4⟩ := h
 refine ⟨by rw [putRow_size]; exact h1,by rw [putRow_get _ (by omega),if_pos rfl,List.length_append,List.length_singleton],fun k hk => ?_,fun j hj hl => ?_⟩
 ·rw [putRow_get _ (by omega),putRow_get _ (by omega)]
  by_cases hkk : k = T.length % 17
  ·refine ⟨s,_,d,(t.2 : Int),by rw [if_neg (by omega),if_neg (by omega),if_pos (by omega)],by rw [if_neg (by omega),if_pos (by omega)]⟩
  ·obtain ⟨s', n', d', c', e1,e2⟩ := h3 k hk
   refine ⟨s', n', d', c', by rw [if_neg (by omega),if_neg (by omega),if_neg (by omega)]; exact e1,by rw [if_neg (by omega),if_neg (by omega),if_neg (by omega)]; exact e2⟩
 ·rw [List.length_append,List.length_singleton] at hj hl
  by_cases hjT : j = T.length
  ·subst hjT
   refine ⟨_,_,by rw [putRow_get _ (by omega),if_neg (by omega),if_neg (by omega),if_pos (by omega)],by rw [putRow_get _ (by omega),if_neg (by omega),if_pos (by omega)],s,d,?_,?_,?_,?_⟩
   all_goals rw [List.getElem_append_right (Nat.le_refl _)]
   ·simp
   ·simp
   ·simpa using hd
   ·simpa using hst
  ·obtain ⟨v,u,e1,e2,e3⟩ := h4 j (by omega) (by omega)
   have hm : j % 17 ≠ T.length % 17 := by omega
   refine ⟨v,u,by rw [putRow_get _ (by omega),if_neg (by omega),if_neg (by omega),if_neg (by omega)]; exact e1,by rw [putRow_get _ (by omega),if_neg (by omega),if_neg (by omega),if_neg (by omega)]; exact e2,?_⟩
   rw [List.getElem_append_left (by omega)]
   exact e3
set_option maxRecDepth 100000 in
set_option maxHeartbeats 3200000 in
theorem rput_any (w : World) (rb o : Nat) (row : Array Value) (U : TypeId) (hrow : w.heap[rb]? = some (.cells row U (0, 0))) (T : List Tk) (ls : List (Nat × Obj)) (hR : Ring T row o ls) (hT : T.length ≤ 65536) (s : Option Addr) (n d : Nat) (c : Int) :
  Calls Tryz.prog 69 #[.pointer (some ⟨rb,o,none⟩),.slice s n d,.int .i64 c] w fun e w' => e = .returned (.tuple #[]) /\ Keeps w w' (fun b => b = rb) /\ w'.heap.size = w.heap.size /\ w'.heap[rb]? = some (.cells (putRow row o T.length (.slice s n d) c) U (0,0)) := by
 have c0 : w.cell? ⟨rb,o + 34,none⟩ = some (.int .i64 (T.length : Int)) := by rw [cell_of_row _ _ _ _ _ _ hrow]; exact hR.2.1
 obtain ⟨s0,n0,d0,z0,e1,e2⟩ := hR.2.2.1 (T.length % 17) (Nat.mod_lt _ (by decide))
 have HRW := Lib.hid hrow
 obtain ⟨nt,hnt⟩ : ∃ n,T.length = n := ⟨_,rfl⟩
 rw [hnt] at c0 e1 e2 hT ⊢
 obtain ⟨kk,hkk⟩ : ∃ k,nt % 17 = k := ⟨_,rfl⟩
 have hk17 : kk < 17 := by omega
 rw [hkk] at e1 e2
 have c1 : w.drew.cell? ⟨rb,o + kk * 2,none⟩ = some (.slice s0 n0 d0) := by show w.cell? _ = _; rw [cell_of_row _ _ _ _ _ _ hrow,Nat.mul_comm]; exact e1
 have c2 : w.drew.cell? ⟨rb,o + kk * 2 + 1,none⟩ = some (.int .i64 z0) := by show w.cell? _ = _; rw [cell_of_row _ _ _ _ _ _ hrow,Nat.mul_comm]; exact e2
 have c0 : w.drew.cell? ⟨rb,o + 34,none⟩ = some (.int .i64 (nt : Int)) := c0
 have f0 : ∀ j,w.drew.frozen? ⟨rb,j,none⟩ = false := fun j => frozen_of_row w _ j _ _ hrow
 have f1 := f0 (o + kk * 2)
 have f2 := f0 (o + kk * 2 + 1)
 have c1w : w.cell? ⟨rb,o + kk * 2,none⟩ = some (.slice s0 n0 d0) := c1
 have c2w : w.cell? ⟨rb,o + kk * 2 + 1,none⟩ = some (.int .i64 z0) := c2
 have f1w : w.frozen? ⟨rb,o + kk * 2,none⟩ = false := f1
 have f2w : w.frozen? ⟨rb,o + kk * 2 + 1,none⟩ = false := f2
 have w2 : Int.tmod (nt : Int) 17 = (kk : Int) := by rw [Int.tmod_eq_emod_of_nonneg (by omega)]; omega
 have hkI : (kk : Int) < 17 := by omega
 have hk0 : (0 : Int) <= (kk : Int) := Int.natCast_nonneg _
 clear hrow hR e1 e2 hnt
 go_enter Tryz.func69,Tryz.ntmps69
 go_upto_region 0 with fail
 go_big_region
 have r1 := heap_setCell_same w rb (o + kk * 2) _ _ (.slice s n d) HRW.out
 have r2 := heap_setCell_same _ rb (o + kk * 2 + 1) _ _ (.int .i64 c) r1
 have KP : Hid (Keeps w (World.drew (World.setCell (World.setCell w ⟨rb,o + kk * 2,none⟩ (.slice s n d)) ⟨rb,o + kk * 2 + 1,none⟩ (.int .i64 c))) (fun b => b = rb) /\ (World.drew (World.setCell (World.setCell w ⟨rb,o + kk * 2,none⟩ (.slice s n d)) ⟨rb,o + kk * 2 + 1,none⟩ (.int .i64 c))).heap.size = w.heap.size /\ (World.drew (World.setCell (World.setCell w ⟨rb,o + kk * 2,none⟩ (.slice s n d)) ⟨rb,o + kk * 2 + 1,none⟩ (.int .i64 c))).heap[rb]? = some (.cells ((row.setIfInBounds (o + kk * 2) (.slice s n d)).setIfInBounds (o + kk * 2 + 1) (.int .i64 c)) U (0,0))) :=
  Lib.hid ⟨(((Keeps.refl w (fun b => b = rb)).setCell (p := ⟨rb,o + kk * 2,none⟩) (.inl rfl) _).setCell (p := ⟨rb,o + kk * 2 + 1,none⟩) (.inl rfl) _).drew,by show (World.setCell (World.setCell w _ _) _ _).heap.size = _; simp [World.setCell],r2⟩
 generalize hW4 : World.drew (World.setCell (World.setCell w _ _) _ _) = W4 at KP ⊢
 have c5 : W4.cell? ⟨rb,o + 34,none⟩ = some (.int .i64 (nt : Int)) := by
  rw [cell_of_row _ _ _ _ _ _ KP.out.2.2,Array.getElem?_setIfInBounds_ne (by omega),Array.getElem?_setIfInBounds_ne (by omega)]
  have h : w.cell? ⟨rb,o + 34,none⟩ = some (.int .i64 (nt : Int)) := c0
  rw [cell_of_row _ _ _ _ _ _ HRW.out] at h
  exact h
 have f5 : W4.frozen? ⟨rb,o + 34,none⟩ = false := frozen_of_row W4 _ _ _ _ KP.out.2.2
 clear hW4 r1 r2 c0 c1 c2 c1w c2w f0 f1 f2 f1w f2w w2
 go_wp2_with fail
 go_end0
 refine ⟨rfl,KP.out.1.setCell (.inl rfl) _,by simp [World.setCell]; exact KP.out.2.1,?_⟩
 have r6 := heap_setCell_same W4 rb (o + 34) _ _ (.int .i64 ((nt : Int) + 1)) KP.out.2.2
 unfold putRow
 rw [hkk]
 exact r6
theorem own_same2 {W W' : World} {base : Nat} {T : TypeId} {sz : Nat} {v : Value} {n : Nat} {xs : List Value} (h : W.ownsRow base T sz v n xs) (hs : ∀ g, v.ownBlock = some g → W'.heap[g]? = W.heap[g]?) : W'.ownsRow base T sz v n xs := by
 refine ⟨h.1,?_⟩
 rcases h.2 with h2 | ⟨g,cap,cur,hv,hb,hg,r⟩
 ·exact .inl h2
 ·exact .inr ⟨g,cap,cur,hv,hb,(hs g (by rw [hv]; rfl)).trans hg,r⟩
theorem own_block2 {W : World} {base : Nat} {T : TypeId} {sz : Nat} {v : Value} {n : Nat} {xs : List Value} (h : W.ownsRow base T sz v n xs) {g : Nat} (hv : v.ownBlock = some g) : ∃ o, W.heap[g]? = some o := by
 rcases h.2 with ⟨rfl,_⟩ | ⟨g', cap,cur,rfl,_,hg,_⟩
 ·cases hv
 ·cases hv
  exact ⟨_,hg⟩
variable {w W : World} {wr : Option (Nat × Bits)} {rd : Option (Nat × ByteArray × Nat)} {ks : List (Nat × Obj)} {vm ve : Value} {M : List One} {E : List Nat}
theorem own_new {v v' : Value} {n : Nat} (hw : v'.ownBlock = v.ownBlock ∨ v'.ownBlock = some n) {b : Nat} (hb : b < n) (hne : some b ≠ v.ownBlock) : some b ≠ v'.ownBlock := fun e => by
 rcases hw with h | h
 ·exact hne (e.trans h)
 ·rw [h] at e
  injection e with e
  omega
theorem own_ks {W2 : World} {T : TypeId} {sz n : Nat} {v' : Value} {xs : List Value} (own : W2.ownsRow 0 T sz v' n xs) : ∃ ks2 : List (Nat × Obj), (∀ g, v'.ownBlock = some g → ∃ o, (g, o) ∈ ks2) ∧ (∀ p ∈ ks2, some p.1 = v'.ownBlock) ∧ ∀ p ∈ ks2, W2.heap[p.1]? = some p.2 := by
 rcases hv : v'.ownBlock with _ | g
 ·exact ⟨[],fun _ hg => (by cases hg),fun _ hp => (by cases hp),fun _ hp => (by cases hp)⟩
 ·obtain ⟨o,ho⟩ := own_block2 own hv
  refine ⟨[(g,o)],fun g' hg' => ⟨o,by cases hg'; exact List.mem_cons_self ..⟩,fun p hp => ?_,fun p hp => ?_⟩
  ·rw [List.mem_singleton.1 hp]
  ·rw [List.mem_singleton.1 hp]; exact ho
theorem one_one (o : One) : ∀ u ∈ o.cells, u.oneCell' = true := by
 intro u hu
 unfold One.cells at hu
 simp only [List.mem_cons,List.not_mem_nil,or_false] at hu
 rcases hu with rfl | rfl | rfl | rfl | rfl | rfl | rfl <;> rfl
section
variable {w W W' : World} {wr : Option (Nat × Bits)} {rd : Option (Nat × ByteArray × Nat)} {K : List (Nat × Obj)}
theorem FS.turn {b : Nat} {o o' : Obj} (h : FS w wr rd ((b, o) :: K) W) (k : Keeps W W' (fun x => x = b)) (hb : W'.heap[b]? = some o') (hne : ∀ p ∈ K, p.1 ≠ b) : FS w wr rd ((b, o') :: K) W' := by
 obtain ⟨x,hf,hw,hr,hk⟩ := h
 obtain ⟨hx,hlt⟩ := hk (b,o) (List.mem_cons_self ..)
 have hlt := lt_of_block hlt
 have f2 : Fr x (paint x W.heap.size 4) (fun e => e = 4) W W' := k.fr rfl (fun c _ hc => by subst hc; exact hx)
 refine ⟨_,hf.trans (f2.mono (fun c hc => by show c < 50; omega)),fun q e => (hw q e).frame f2 (by decide),fun q e => rdc_frame (hr q e) f2 (by decide),fun p hp => ?_⟩
 rcases List.mem_cons.1 hp with rfl | hp
 ·exact ⟨(paint_old hlt).trans hx,hb⟩
 ·obtain ⟨h1,h2⟩ := hk p (List.mem_cons_of_mem _ hp)
  exact ⟨(paint_old (lt_of_block h2)).trans h1,(k.block _ (lt_of_block h2) (hne p hp)).trans h2⟩
theorem FS.store {b j : Nat} {row : Array Value} {T : TypeId} (v : Value) (h : FS w wr rd ((b, .cells row T (0, 0)) :: K) W) (hne : ∀ p ∈ K, p.1 ≠ b) : FS w wr rd ((b, .cells (row.setIfInBounds j v) T (0, 0)) :: K) (W.setCell ⟨b, j, none⟩ v) :=
 h.turn ((Keeps.refl W (fun x => x = b)).setCell (p := ⟨b,j,none⟩) (.inl rfl) v) (heap_setCell_same W b j _ _ v (h.row (List.mem_cons_self ..))) hne
theorem FS.more {js : List (Nat × Obj)} (h : FS w wr rd K W) (k : Below W.heap.size W W') (hj : ∀ p ∈ js, W.heap.size ≤ p.1 ∧ W'.heap[p.1]? = some p.2) : FS w wr rd (js ++ K) W' := by
 obtain ⟨x,hf,hw,hr,hk⟩ := h
 have f2 : Fr x (paint x W.heap.size 4) (fun e => e = 4) W W' := Fr.of_below k rfl
 refine ⟨_,hf.trans (f2.mono (fun c hc => by show c < 50; omega)),fun q e => (hw q e).frame f2 (by decide),fun q e => rdc_frame (hr q e) f2 (by decide),fun p hp => ?_⟩
 rcases List.mem_append.1 hp with hp | hp
 ·exact ⟨paint_new (hj p hp).1,(hj p hp).2⟩
 ·obtain ⟨h1,h2⟩ := hk p hp
  exact ⟨(paint_old (lt_of_block h2)).trans h1,(k.block _ (lt_of_block h2)).trans h2⟩
theorem FS.drewN (h : FS w wr rd K W) (q : Nat) : FS w wr rd K (W.drewN q) := h.next ⟨rfl, rfl, rfl, Nat.le_refl _, fun _ _ => rfl⟩
theorem FS.drew (h : FS w wr rd K W) : FS w wr rd K W.drew := h.drewN 1
end
def Seen (w : World) (ks : List (Nat × Obj)) (a : Option Addr) (l : List Nat) : Prop := ∀ W : World, Below w.heap.size w W → (∀ p ∈ ks, W.heap[p.1]? = some p.2) → LV W a l
theorem Seen.more {w : World} {ks ks' : List (Nat × Obj)} {a : Option Addr} {l : List Nat} (h : Seen w ks a l) (hs : ∀ p ∈ ks, p ∈ ks') : Seen w ks' a l := fun W k hk => h W k (fun p hp => hk p (hs p hp))
structure PackRow (b : Bp) (T : List Tk) (wb E D : Nat) (row : Array Value) (ls : List (Nat × Obj)) : Prop where
 size : row.size = 43
 p0 : row[0]? = some (.int .i64 (b.p.win : Int))
 p1 : row[1]? = some (.int .i64 (b.depth : Int))
 p2 : row[2]? = some (.int .i64 (b.p.itv : Int))
 p3 : row[3]? = some (.int .i64 (b.p.zet : Int))
 p4 : row[4]? = some (.int .i64 (b.cap : Int))
 ring : Ring T row 5 ls
 w : row[40]? = some (.pointer (some ⟨wb,0,none⟩))
 e : row[41]? = some (.int .i64 (E : Int))
 d : row[42]? = some (.int .i64 (D : Int))
structure TryS (w : World) (b : Bp) (T : List Tk) (wb E D : Nat) (l : Bits) (rd : Option (Nat × ByteArray × Nat)) (kb : Nat) (row : Array Value) (ls : List (Nat × Obj)) (bk bs bx bl br bb : Nat) (sv : Value) (lv rv v u : Value) (K : List (Nat × Obj)) (W : World) : Prop where
 fs : FS w (some (wb,l)) rd ((bl,.cells #[lv] 3 (0,0)) :: (br,.cells #[rv] 3 (0,0)) :: (bb,.cells #[v,u] 123 (0,0)) :: K) W
 k : (kb,.cells row 129 (0,0)) ∈ K
 kk : (bk,.cells #[.pointer (some ⟨kb,0,none⟩)] 79 (0,0)) ∈ K
 ks : (bs,.cells #[sv] 34 (0,0)) ∈ K
 kx : (bx,.cells #[.int .i64 (T.length : Int)] 3 (0,0)) ∈ K
 kl : ∀ p ∈ ls,p ∈ K
 ne : bl ≠ br /\ bl ≠ bb /\ br ≠ bb /\ ∀ p ∈ K,p.1 ≠ bl /\ p.1 ≠ br /\ p.1 ≠ bb
 row : PackRow b T wb E D row ls
section
variable {w W W' : World} {b : Bp} {T : List Tk} {wb E D : Nat} {l : Bits} {rd : Option (Nat × ByteArray × Nat)} {kb : Nat} {row : Array Value} {ls : List (Nat × Obj)} {bk bs bx bl br bb : Nat} {sv lv rv v u : Value} {K : List (Nat × Obj)}
theorem TryS.next (h : TryS w b T wb E D l rd kb row ls bk bs bx bl br bb sv lv rv v u K W) (k : Below W.heap.size W W') : TryS w b T wb E D l rd kb row ls bk bs bx bl br bb sv lv rv v u K W' := ⟨h.fs.next k, h.k, h.kk, h.ks, h.kx, h.kl, h.ne, h.row⟩
theorem TryS.drew (h : TryS w b T wb E D l rd kb row ls bk bs bx bl br bb sv lv rv v u K W) : TryS w b T wb E D l rd kb row ls bk bs bx bl br bb sv lv rv v u K W.drew := h.next (Below.drew (Below.refl _ _))
theorem TryS.has (h : TryS w b T wb E D l rd kb row ls bk bs bx bl br bb sv lv rv v u K W) {p : Nat × Obj} (hp : p ∈ K) : W.heap[p.1]? = some p.2 := h.fs.row (b := p.1) (o := p.2) (List.mem_cons_of_mem _ (List.mem_cons_of_mem _ (List.mem_cons_of_mem _ hp)))
theorem TryS.add (h : TryS w b T wb E D l rd kb row ls bk bs bx bl br bb sv lv rv v u K W) (k : Below W.heap.size W W') {tb : Nat} {o : Obj} (htb : W.heap.size ≤ tb) (ho : W'.heap[tb]? = some o) : TryS w b T wb E D l rd kb row ls bk bs bx bl br bb sv lv rv v u ((tb, o) :: K) W' := by
 have l1 := lt_of_block (h.fs.row (List.mem_cons_self ..))
 have l2 := lt_of_block (h.fs.row (List.mem_cons_of_mem _ (List.mem_cons_self ..)))
 have l3 := lt_of_block (h.fs.row (List.mem_cons_of_mem _ (List.mem_cons_of_mem _ (List.mem_cons_self ..))))
 obtain ⟨n1,n2,n3,n4⟩ := h.ne
 refine ⟨(h.fs.more (js := [(tb,o)]) k (fun p hp => by rw [List.mem_singleton.1 hp]; exact ⟨htb,ho⟩)).sub (fun p hp => ?_),List.mem_cons_of_mem _ h.k,List.mem_cons_of_mem _ h.kk,List.mem_cons_of_mem _ h.ks,List.mem_cons_of_mem _ h.kx,fun p hp => List.mem_cons_of_mem _ (h.kl p hp),⟨n1,n2,n3,fun p hp => ?_⟩,h.row⟩
 ·simp only [List.mem_cons,List.mem_append,List.not_mem_nil,or_false] at hp ⊢
  rcases hp with h | h | h | h | h
  ·exact .inr (.inl h)
  ·exact .inr (.inr (.inl h))
  ·exact .inr (.inr (.inr (.inl h)))
  ·exact .inl h
  ·exact .inr (.inr (.inr (.inr h)))
 ·rcases List.mem_cons.1 hp with rfl | hp
  ·exact ⟨by show tb ≠ bl; omega,by show tb ≠ br; omega,by show tb ≠ bb; omega⟩
  ·exact n4 p hp
theorem TryS.cells (h : TryS w b T wb E D l rd kb row ls bk bs bx bl br bb sv lv rv v u K W) :
  W.cell? ⟨bk,0,none⟩ = some (.pointer (some ⟨kb,0,none⟩)) /\ W.cell? ⟨bs,0,none⟩ = some sv /\ W.cell? ⟨bx,0,none⟩ = some (.int .i64 (T.length : Int)) /\ W.cell? ⟨bl,0,none⟩ = some lv /\ W.cell? ⟨br,0,none⟩ = some rv /\
  W.cell? ⟨kb,0,none⟩ = some (.int .i64 (b.p.win : Int)) /\ W.cell? ⟨kb,1,none⟩ = some (.int .i64 (b.depth : Int)) /\ W.cell? ⟨kb,2,none⟩ = some (.int .i64 (b.p.itv : Int)) /\ W.cell? ⟨kb,3,none⟩ = some (.int .i64 (b.p.zet : Int)) /\ W.cell? ⟨kb,4,none⟩ = some (.int .i64 (b.cap : Int)) := by
 have hk := h.has h.k
 refine ⟨by rw [cell_of_row _ _ _ _ _ _ (h.has h.kk)]; rfl,by rw [cell_of_row _ _ _ _ _ _ (h.has h.ks)]; rfl,by rw [cell_of_row _ _ _ _ _ _ (h.has h.kx)]; rfl,by rw [cell_of_row _ _ _ _ _ _ (h.fs.row (List.mem_cons_self ..))]; rfl,by rw [cell_of_row _ _ _ _ _ _ (h.fs.row (List.mem_cons_of_mem _ (List.mem_cons_self ..)))]; rfl,?_,?_,?_,?_,?_⟩
 ·rw [cell_of_row _ _ _ _ _ _ hk]; exact h.row.p0
 ·rw [cell_of_row _ _ _ _ _ _ hk]; exact h.row.p1
 ·rw [cell_of_row _ _ _ _ _ _ hk]; exact h.row.p2
 ·rw [cell_of_row _ _ _ _ _ _ hk]; exact h.row.p3
 ·rw [cell_of_row _ _ _ _ _ _ hk]; exact h.row.p4
theorem TryS.set (h : TryS w b T wb E D l rd kb row ls bk bs bx bl br bb sv lv rv v u K W) (lv' rv' v' u' : Value) :
  TryS w b T wb E D l rd kb row ls bk bs bx bl br bb sv lv' rv' v' u' K ((((W.setCell ⟨bl,0,none⟩ lv').setCell ⟨br,0,none⟩ rv').setCell ⟨bb,0,none⟩ v').setCell ⟨bb,1,none⟩ u') := by
 obtain ⟨n1,n2,n3,n4⟩ := h.ne
 have e1 := h.fs.store (j := 0) lv' (fun p hp => by
  simp only [List.mem_cons] at hp
  rcases hp with rfl | rfl | hp
  ·exact fun e => n1 e.symm
  ·exact fun e => n2 e.symm
  ·exact (n4 p hp).1)
 have e2 := (e1.sub (ks' := (br,.cells #[rv] 3 (0,0)) :: (bl,.cells #[lv'] 3 (0,0)) :: (bb,.cells #[v,u] 123 (0,0)) :: K) (fun p hp => by
  simp only [List.mem_cons] at hp ⊢
  rcases hp with h | h | h | h
  ·exact .inr (.inl h)
  ·exact .inl h
  ·exact .inr (.inr (.inl h))
  ·exact .inr (.inr (.inr h)))).store (j := 0) rv' (fun p hp => by
  simp only [List.mem_cons] at hp
  rcases hp with rfl | rfl | hp
  ·exact n1
  ·exact fun e => n3 e.symm
  ·exact (n4 p hp).2.1)
 have e3 := (e2.sub (ks' := (bb,.cells #[v,u] 123 (0,0)) :: (bl,.cells #[lv'] 3 (0,0)) :: (br,.cells #[rv'] 3 (0,0)) :: K) (fun p hp => by
  simp only [List.mem_cons] at hp ⊢
  rcases hp with h | h | h | h
  ·exact .inr (.inr (.inl h))
  ·exact .inr (.inl h)
  ·exact .inl h
  ·exact .inr (.inr (.inr h)))).store (j := 0) v' (fun p hp => by
  simp only [List.mem_cons] at hp
  rcases hp with rfl | rfl | hp
  ·exact n2
  ·exact n3
  ·exact (n4 p hp).2.2)
 have e4 := e3.store (j := 1) u' (fun p hp => by
  simp only [List.mem_cons] at hp
  rcases hp with rfl | rfl | hp
  ·exact n2
  ·exact n3
  ·exact (n4 p hp).2.2)
 refine ⟨e4.sub (fun p hp => ?_),h.k,h.kk,h.ks,h.kx,h.kl,h.ne,h.row⟩
 simp only [List.mem_cons] at hp ⊢
 rcases hp with h | h | h | h
 ·exact .inr (.inl h)
 ·exact .inr (.inr (.inl h))
 ·exact .inl h
 ·exact .inr (.inr (.inr h))
end

def TryP (w : World) (b : Bp) (T : List Tk) (wb E D : Nat) (l : Bits) (rd : Option (Nat × ByteArray × Nat)) (kb : Nat) (row : Array Value) (ls : List (Nat × Obj)) (bk bs bx bl br bb : Nat) (sv : Value) (q : Nat × Nat × Tk) (K : List (Nat × Obj)) (e : Ending) (w' : World) : Prop :=
 e = .returned (.tuple #[]) /\ ∃ v u,TryS w b T wb E D l rd kb row ls bk bs bx bl br bb sv (.int .i64 (q.1 : Int)) (.int .i64 (q.2.1 : Int)) v u K w' /\ Slot K q.2.2 v u
theorem TryS.fewer {w W : World} {b : Bp} {T : List Tk} {wb E D : Nat} {l : Bits} {rd : Option (Nat × ByteArray × Nat)} {kb : Nat} {row : Array Value} {ls : List (Nat × Obj)} {bk bs bx bl br bb : Nat} {sv lv rv v u : Value} {K K' : List (Nat × Obj)} (h : TryS w b T wb E D l rd kb row ls bk bs bx bl br bb sv lv rv v u K W)
  (hs : ∀ p ∈ K,p ∈ K') {lv' rv' v' u' : Value} {W2 : World} (g : TryS w b T wb E D l rd kb row ls bk bs bx bl br bb sv lv' rv' v' u' K' W2) : TryS w b T wb E D l rd kb row ls bk bs bx bl br bb sv lv' rv' v' u' K W2 :=
 ⟨g.fs.sub (fun p hp => by
  simp only [List.mem_cons] at hp ⊢
  rcases hp with h | h | h | h
  ·exact .inl h
  ·exact .inr (.inl h)
  ·exact .inr (.inr (.inl h))
  ·exact .inr (.inr (.inr (hs p h)))),h.k,h.kk,h.ks,h.kx,h.kl,h.ne,h.row⟩
def BackQ (b : Bp) (T : List Tk) (r : Nat) (size : Nat) (ls : List (Nat × Obj)) (w : World) (e : Ending) (w' : World) : Prop :=
 Below w.heap.size w w' /\ ∃ v u bb,e = .returned (.tuple #[.agg #[v,u],.bool bb]) /\ (∃ s n d c,v = .slice s n d /\ u = .int .i64 c) /\ (match backB b T r size with | none => bb = false | some t => bb = true /\ Slot ls t v u)
theorem BackP.nat {b : Bp} {T : List Tk} {r : Nat} {size : Nat} {ls : List (Nat × Obj)} {w : World} {e : Ending} {w' : World} (h : BackP b T (r : Int) size ls w e w') : BackQ b T r size ls w e w' := by
 unfold BackP at h
 rw [if_pos (Int.natCast_nonneg _),Int.toNat_natCast] at h
 exact h
def TryT (w : World) (b : Bp) (T : List Tk) (wb E D : Nat) (l : Bits) (rd : Option (Nat × ByteArray × Nat)) (kb : Nat) (row : Array Value) (ls : List (Nat × Obj)) (bk bs bx bl br bb : Nat) (sv lv rv v u : Value) (K : List (Nat × Obj)) (r n : Nat) (v8 v9 : Value) (W : World) : Prop :=
 ∃ tb tv tu ok,v8 = .pointer (some ⟨tb,0,none⟩) /\ v9 = .bool ok /\ (∃ s n d c,tv = .slice s n d /\ tu = .int .i64 c) /\ (match backB b T r n with | none => ok = false | some t => ok = true /\ Slot ls t tv tu) /\ TryS w b T wb E D l rd kb row ls bk bs bx bl br bb sv lv rv v u ((tb,.cells #[tv,tu] 123 (0,0)) :: K) W
set_option maxRecDepth 100000 in
set_option maxHeartbeats 6400000 in
theorem try_any {w W : World} {b : Bp} {T : List Tk} {wb E D : Nat} {l : Bits} {rd : Option (Nat × ByteArray × Nat)} {kb : Nat} {row : Array Value} {ls : List (Nat × Obj)} {bk bs bx bl br bb : Nat} {a : Option Addr} {succ : List Nat} {cap : Nat} {v u : Value} {K : List (Nat × Obj)} {q : Nat × Nat × Tk}
  (h : TryS w b T wb E D l rd kb row ls bk bs bx bl br bb (.slice a succ.length cap) (.int .i64 (q.1 : Int)) (.int .i64 (q.2.1 : Int)) v u K W) (hG : GL w) (hb : b.p.ok) (hx : T.length < 65536) (hs : Ris succ) (hT : TOk T) (hc : succ.length <= cap) (hA : Seen w K a succ) (hsl : Slot K q.2.2 v u) (r : Nat) (hr : 1 <= r /\ r <= 16) :
  Calls Tryz.prog 67 #[.int .i64 (r : Int),.pointer (some ⟨bk,0,none⟩),.pointer (some ⟨bs,0,none⟩),.pointer (some ⟨bx,0,none⟩),.pointer (some ⟨bl,0,none⟩),.pointer (some ⟨br,0,none⟩),.pointer (some ⟨bb,0,none⟩)] W
   (TryP w b T wb E D l rd kb row ls bk bs bx bl br bb (.slice a succ.length cap) (stepB b T succ q r) K) := by
 have hs9 := hs.len
 have BK : Hid (∀ W', TryS w b T wb E D l rd kb row ls bk bs bx bl br bb (.slice a succ.length cap) (.int .i64 (q.1 : Int)) (.int .i64 (q.2.1 : Int)) v u K W' -> Calls Tryz.prog 68 #[.pointer (some ⟨kb,5,none⟩),.int .i64 (r : Int),.int .i64 (succ.length : Int),.agg #[.int .i64 (b.p.win : Int),.int .i64 (b.depth : Int),.int .i64 (b.p.itv : Int),.int .i64 (b.p.zet : Int),.int .i64 (b.cap : Int)]] W' (BackQ b T r succ.length ls W')) :=
  Lib.hid (fun W' h' => (back_any b T (r : Int) succ.length ls W' kb 5 row _ (h'.has h'.k) h'.row.ring (by omega) hb.1 (by omega) (fun t ht => (hT t ht).len)).mono (fun _ _ h => h.nat))
 have H := Lib.hid h
 obtain ⟨c1,c2,c3,c4,c5,d0,d1,d2,d3,d4⟩ := h.cells
 obtain ⟨n,hn⟩ : ∃ n,succ.length = n := ⟨_,rfl⟩
 have HN := Lib.hid hn
 rw [hn] at BK H hc c2 hs9 ⊢
 clear h hn
 go_enter Tryz.func67,Tryz.ntmps67
 have MF : Hid (∀ W', Below W.heap.size W W' -> W'.cell? ⟨bk,0,none⟩ = some (.pointer (some ⟨kb,0,none⟩)) /\ W'.cell? ⟨bs,0,none⟩ = some (.slice a n cap) /\ W'.cell? ⟨kb,0,none⟩ = some (.int .i64 (b.p.win : Int)) /\ W'.cell? ⟨kb,1,none⟩ = some (.int .i64 (b.depth : Int)) /\ W'.cell? ⟨kb,2,none⟩ = some (.int .i64 (b.p.itv : Int)) /\ W'.cell? ⟨kb,3,none⟩ = some (.int .i64 (b.p.zet : Int)) /\ W'.cell? ⟨kb,4,none⟩ = some (.int .i64 (b.cap : Int)) /\ Below W.heap.size W W') := Lib.hid (fun W' k => by
  have cc : ∀ p v,W.cell? p = some v -> W'.cell? p = some v := fun p v h => (k.cell (World.block_lt_of_cell? _ _ h)).trans h
  exact ⟨cc _ _ c1,cc _ _ c2,cc _ _ d0,cc _ _ d1,cc _ _ d2,cc _ _ d3,cc _ _ d4,k⟩)
 have KA : Hid (∀ W', Below W.heap.size W W' -> Below W.heap.size W (W'.alloc (.cells #[.slice none 0 0,.int .i64 0] 123))) := Lib.hid (fun W' k => k.alloc k.size _)
 have KB : Hid (∀ W' o,Below W.heap.size W W' -> Below W.heap.size W (W'.alloc o)) := Lib.hid (fun W' o k => k.alloc k.size _)
 have KS : Hid (∀ W' u1 u2,Below W.heap.size W W' -> Below W.heap.size W ((W'.setCell ⟨W.heap.size,0,none⟩ u1).setCell ⟨W.heap.size,1,none⟩ u2)) := Lib.hid (fun W' u1 u2 k => (k.setCell (Nat.le_refl _) _).setCell (Nat.le_refl _) _)
 have KX : Hid (∀ W' W'', Below W.heap.size W W' -> Below W'.heap.size W' W'' -> Below W.heap.size W W'') := Lib.hid (fun W' W'' h k => h.trans (k.mono h.size))
 have NR : Hid (∀ (W' : World) (g : Nat),W'.heap[g]? = some (.cells #[.slice none 0 0,.int .i64 0] 123 (0,0)) -> W'.cell? ⟨g,0,none⟩ = some (.slice none 0 0) /\ W'.cell? ⟨g,1,none⟩ = some (.int .i64 0) /\ W'.frozen? ⟨g,0,none⟩ = false /\ W'.frozen? ⟨g,1,none⟩ = false) := Lib.hid (fun W' g h => ⟨by rw [cell_of_row _ _ _ _ _ _ h]; rfl,by rw [cell_of_row _ _ _ _ _ _ h]; rfl,frozen_of_row W' g 0 _ _ h,frozen_of_row W' g 1 _ _ h⟩)
 have NB : Hid (∀ W' : World,(W'.alloc (.cells #[.slice none 0 0,.int .i64 0] 123)).cell? ⟨W'.heap.size,0,none⟩ = some (.slice none 0 0) /\ (W'.alloc (.cells #[.slice none 0 0,.int .i64 0] 123)).cell? ⟨W'.heap.size,1,none⟩ = some (.int .i64 0) /\ (W'.alloc (.cells #[.slice none 0 0,.int .i64 0] 123)).frozen? ⟨W'.heap.size,0,none⟩ = false /\ (W'.alloc (.cells #[.slice none 0 0,.int .i64 0] 123)).frozen? ⟨W'.heap.size,1,none⟩ = false) := Lib.hid (fun W' => NR.out _ _ (heap_alloc_new W' _))
 go_upto_region 0 with fail
 go_cut [8,9] from 12 to 25 (fun v8 v9 wc => TryT w b T wb E D l rd kb row ls bk bs bx bl br bb (.slice a n cap) (.int .i64 (q.1 : Int)) (.int .i64 (q.2.1 : Int)) v u K r n v8 v9 wc)
 case first =>
  have K0 := Below.refl W.heap.size W
  go_region_held3 (fun W' => W'.cell? ⟨bk,0,none⟩ = some (.pointer (some ⟨kb,0,none⟩)) /\ W'.cell? ⟨bs,0,none⟩ = some (.slice a n cap) /\ W'.cell? ⟨kb,0,none⟩ = some (.int .i64 (b.p.win : Int)) /\ W'.cell? ⟨kb,1,none⟩ = some (.int .i64 (b.depth : Int)) /\ W'.cell? ⟨kb,2,none⟩ = some (.int .i64 (b.p.itv : Int)) /\ W'.cell? ⟨kb,3,none⟩ = some (.int .i64 (b.p.zet : Int)) /\ W'.cell? ⟨kb,4,none⟩ = some (.int .i64 (b.cap : Int)) /\ Below W.heap.size W W')
   (first
    | exact MF.out _ (by assumption)
    | exact MF.out _ (Below.drew (by assumption))
    | exact MF.out _ (KA.out _ (by assumption))
    | exact MF.out _ (Below.drew (KA.out _ (by assumption)))
    | exact MF.out _ (KB.out _ _ (by assumption))
    | exact MF.out _ (KS.out _ _ _ (by assumption)))
   (first
    | (go_at_call 68; (with_reducible refine (BK.out _ (H.out.next (by first | assumption | exact Below.drew (by assumption) | exact Below.drew (KA.out _ (by assumption))))).mono ?_); rintro e w5 ⟨k5,_,_,ok,rfl,⟨s9,n9,d9,c9,rfl,rfl⟩,hok⟩; have k7 := (by first | exact KX.out _ _ (by assumption) k5 | exact KX.out _ _ (Below.drew (by assumption)) k5 | exact KX.out _ _ (Below.drew (KA.out _ (by assumption))) k5 : Below W.heap.size W w5); have nb := NB.out w5; obtain ⟨nb1,nb2,nb3,nb4⟩ := nb; (try (have rA : w5.heap[W.heap.size]? = some (.cells #[.slice none 0 0,.int .i64 0] 123 (0,0)) := (k5.block _ (by simp)).trans (heap_alloc_new W _); obtain ⟨ra1,ra2,ra3,ra4⟩ := NR.out _ _ rA))))
  all_goals
   go_wp2_with fail
   refine Met.intro ?_
   apply_assumption
   (repeat apply Exists.intro)
   refine ⟨?_,rfl⟩
   first
    | exact ⟨_,_,_,ok,rfl,rfl,⟨s9,n9,d9,c9,rfl,rfl⟩,hok,H.out.add (k7.alloc k7.size _) k7.size (heap_alloc_new w5 _)⟩
    | exact ⟨_,_,_,ok,rfl,rfl,⟨s9,n9,d9,c9,rfl,rfl⟩,hok,H.out.add (KS.out _ _ _ k7) (Nat.le_refl _) (set2 _ _ rA (Nat.le_refl _) k7).1⟩
 case rest =>
  obtain ⟨tb,tv,tu,ok,rfl,rfl,⟨s9,n9,d9,c9,rfl,rfl⟩,hok,hS⟩ := hcut
  have HS2 := Lib.hid hS
  clear hS c1 c2 c3 c4 c5 d0 d1 d2 d3 d4 MF KA KB KS KX NR NB BK
  cases hbk : backB b T r n with
  | none =>
   rw [hbk] at hok
   dsimp only at hok
   subst hok
   have SB : Hid (stepB b T succ q r = q) := Lib.hid (by unfold stepB; rw [HN.out,hbk])
   clear hbk
   go_wp2_with fail
   go_end0
   rw [SB.out]
   exact ⟨rfl,v,u,H.out.fewer (fun p hp => List.mem_cons_of_mem _ hp) HS2.out,hsl⟩
  | some t =>
   rw [hbk] at hok
   dsimp only at hok
   obtain ⟨rfl,s8,d8,e1,e2,hd8,hst8⟩ := hok
   injection e1 with e1a e1b e1c
   injection e2 with e2a e2b
   subst e1a e1b e1c e2b
   have BS := back_some hbk
   have HST := Lib.hid hst8
   have SB : Hid (stepB b T succ q r = if (lay T.length succ t.1 r b.p).length < q.1 then ((lay T.length succ t.1 r b.p).length,r,t) else q) := Lib.hid (by unfold stepB; rw [HN.out,hbk])
   have hmN : MayN T.length succ t.1 r b.p := by
    rw [BS.2.2.2.2]
    exact ⟨hb,hx,hs,tkOf_ris hT _,BS.2.2.1,.inl hr.1⟩
   have LL := lay_len hmN
   obtain ⟨nl,hnl⟩ : ∃ z,(lay T.length succ t.1 r b.p).length = z := ⟨_,rfl⟩
   have BI : Hid (∀ W', Below wc.heap.size wc W' -> Calls Tryz.prog 66 #[.int .i64 (T.length : Int),.slice a n cap,.slice s9 t.1.length d9,.int .i64 (r : Int),.agg #[.int .i64 (b.p.win : Int),.int .i64 (b.p.itv : Int),.int .i64 (b.p.zet : Int)]] W' fun e w' => e = .returned (.tuple #[.int .i64 (nl : Int),.int .i64 0]) /\ Below W'.heap.size W' w') := Lib.hid (fun W' k => by
    have hS := HS2.out.next k
    have h1 := lbits_yes b.p T.length W' (hG.below hS.fs.below) a succ cap s9 t.1 d9 r (by rw [HN.out]; exact hc) hd8 hmN (hA W' hS.fs.below (fun p hp => hS.has (List.mem_cons_of_mem _ hp))) (HST.out W' (fun p hp => hS.has (List.mem_cons_of_mem _ (H.out.kl p hp))))
    rw [HN.out,hnl] at h1
    exact h1)
   rw [hnl] at SB LL
   have BL := Lib.hid (fun W' => blist_any (b.p.win : Int) (b.depth : Int) (b.p.itv : Int) (b.p.zet : Int) (b.cap : Int) W')
   unfold bpV parV at BL
   obtain ⟨c1,c2,c3,c4,c5,d0,d1,d2,d3,d4⟩ := HS2.out.cells
   have c6 : wc.cell? ⟨tb,0,none⟩ = some (.slice s9 t.1.length d9) := by rw [cell_of_row _ _ _ _ _ _ (HS2.out.has (List.mem_cons_self ..))]; rfl
   have MF : Hid (∀ W', Below wc.heap.size wc W' -> W'.cell? ⟨bk,0,none⟩ = some (.pointer (some ⟨kb,0,none⟩)) /\ W'.cell? ⟨bs,0,none⟩ = some (.slice a n cap) /\ W'.cell? ⟨bx,0,none⟩ = some (.int .i64 (T.length : Int)) /\ W'.cell? ⟨kb,0,none⟩ = some (.int .i64 (b.p.win : Int)) /\ W'.cell? ⟨kb,1,none⟩ = some (.int .i64 (b.depth : Int)) /\ W'.cell? ⟨kb,2,none⟩ = some (.int .i64 (b.p.itv : Int)) /\ W'.cell? ⟨kb,3,none⟩ = some (.int .i64 (b.p.zet : Int)) /\ W'.cell? ⟨kb,4,none⟩ = some (.int .i64 (b.cap : Int)) /\ W'.cell? ⟨tb,0,none⟩ = some (.slice s9 t.1.length d9) /\ Below wc.heap.size wc W') := Lib.hid (fun W' k => by
    have cc : ∀ p v,wc.cell? p = some v -> W'.cell? p = some v := fun p v h => (k.cell (World.block_lt_of_cell? _ _ h)).trans h
    exact ⟨cc _ _ c1,cc _ _ c2,cc _ _ c3,cc _ _ d0,cc _ _ d1,cc _ _ d2,cc _ _ d3,cc _ _ d4,cc _ _ c6,k⟩)
   have KX : Hid (∀ W' W'', Below wc.heap.size wc W' -> Below W'.heap.size W' W'' -> Below wc.heap.size wc W'') := Lib.hid (fun W' W'' h k => h.trans (k.mono h.size))
   have HQ := Lib.hid hsl
   clear hnl hmN hbk BS hst8 hsl e2a
   go_upto_region 2 with fail
   have K0 := Below.refl wc.heap.size wc
   go_region_held3 (fun W' => W'.cell? ⟨bk,0,none⟩ = some (.pointer (some ⟨kb,0,none⟩)) /\ W'.cell? ⟨bs,0,none⟩ = some (.slice a n cap) /\ W'.cell? ⟨bx,0,none⟩ = some (.int .i64 (T.length : Int)) /\ W'.cell? ⟨kb,0,none⟩ = some (.int .i64 (b.p.win : Int)) /\ W'.cell? ⟨kb,1,none⟩ = some (.int .i64 (b.depth : Int)) /\ W'.cell? ⟨kb,2,none⟩ = some (.int .i64 (b.p.itv : Int)) /\ W'.cell? ⟨kb,3,none⟩ = some (.int .i64 (b.p.zet : Int)) /\ W'.cell? ⟨kb,4,none⟩ = some (.int .i64 (b.cap : Int)) /\ W'.cell? ⟨tb,0,none⟩ = some (.slice s9 t.1.length d9) /\ Below wc.heap.size wc W')
    (first | exact MF.out _ (by assumption) | exact MF.out _ (Below.drew (by assumption)))
    (first
     | (go_at_call 26; (with_reducible refine (BL.out _).mono ?_); rintro e w5 ⟨rfl,k5⟩; have k6 := (by first | exact KX.out _ _ (by assumption) k5 | exact KX.out _ _ (Below.drew (by assumption)) k5 : Below wc.heap.size wc w5))
     | (go_at_call 66; (with_reducible refine (BI.out _ (by first | exact k6 | exact Below.drew k6)).mono ?_); rintro e w6 ⟨rfl,k7⟩; have k8 := (by first | exact KX.out _ _ k6 k7 | exact KX.out _ _ (Below.drew k6) k7 : Below wc.heap.size wc w6)))
   have HS3 := Lib.hid (HS2.out.next k8)
   clear K0 k5 k6 k7 k8 MF KX BL BI HS2 c1 c2 c3 c4 c5 d0 d1 d2 d3 d4 c6
   obtain ⟨c1,c2,c3,c4,c5,d0,d1,d2,d3,d4⟩ := HS3.out.cells
   have c6 : w6.cell? ⟨tb,0,none⟩ = some (.slice s9 t.1.length d9) := by rw [cell_of_row _ _ _ _ _ _ (HS3.out.has (List.mem_cons_self ..))]; rfl
   have c7 : w6.cell? ⟨tb,1,none⟩ = some (.int .i64 (t.2 : Int)) := by rw [cell_of_row _ _ _ _ _ _ (HS3.out.has (List.mem_cons_self ..))]; rfl
   by_cases hlt : nl < q.1
   ·have i1 : decide ((nl : Int) < (q.1 : Int)) = true := decide_eq_true (by omega)
    rw [if_pos hlt] at SB
    obtain ⟨n1,n2,n3,nK⟩ := HS3.out.ne
    obtain ⟨m1,m2,m3⟩ := nK _ (List.mem_cons_self ..)
    dsimp only at m1 m2 m3
    have r1 := HS3.out.fs.row (List.mem_cons_self ..)
    have r2 := HS3.out.fs.row (List.mem_cons_of_mem _ (List.mem_cons_self ..))
    have r3 := HS3.out.fs.row (List.mem_cons_of_mem _ (List.mem_cons_of_mem _ (List.mem_cons_self ..)))
    go_upto_region 4 with fail
    have e8 : w6.cell? ⟨bb,0,none⟩ = some v := by rw [cell_of_row _ _ _ _ _ _ r3]; rfl
    have e9 : w6.cell? ⟨bb,1,none⟩ = some u := by rw [cell_of_row _ _ _ _ _ _ r3]; rfl
    have g4 : w6.frozen? ⟨bl,0,none⟩ = false := frozen_of_row w6 _ 0 _ _ r1
    have g5 : w6.frozen? ⟨br,0,none⟩ = false := frozen_of_row w6 _ 0 _ _ r2
    have g8 : w6.frozen? ⟨bb,0,none⟩ = false := frozen_of_row w6 _ 0 _ _ r3
    have g9 : w6.frozen? ⟨bb,1,none⟩ = false := frozen_of_row w6 _ 1 _ _ r3
    have c4d : w6.drew.cell? ⟨bl,0,none⟩ = some (.int .i64 (q.1 : Int)) := c4
    have c5d : w6.drew.cell? ⟨br,0,none⟩ = some (.int .i64 (q.2.1 : Int)) := c5
    have c6d : w6.drew.cell? ⟨tb,0,none⟩ = some (.slice s9 t.1.length d9) := c6
    have c7d : w6.drew.cell? ⟨tb,1,none⟩ = some (.int .i64 (t.2 : Int)) := c7
    have e8d : w6.drew.cell? ⟨bb,0,none⟩ = some v := e8
    have e9d : w6.drew.cell? ⟨bb,1,none⟩ = some u := e9
    have g4d : w6.drew.frozen? ⟨bl,0,none⟩ = false := g4
    have g5d : w6.drew.frozen? ⟨br,0,none⟩ = false := g5
    have g8d : w6.drew.frozen? ⟨bb,0,none⟩ = false := g8
    have g9d : w6.drew.frozen? ⟨bb,1,none⟩ = false := g9
    clear c1 c2 c3 d0 d1 d2 d3 d4 r1 r2 r3 nK
    go_big_region
    go_end0
    rw [SB.out]
    exact ⟨rfl,_,_,H.out.fewer (fun p hp => List.mem_cons_of_mem _ hp) (HS3.out.set (.int .i64 (nl : Int)) (.int .i64 (r : Int)) (.slice s9 t.1.length d9) (.int .i64 (t.2 : Int))).drew,s9,d9,rfl,rfl,hd8,HST.out.more H.out.kl⟩
   ·have i1 : decide ((nl : Int) < (q.1 : Int)) = false := decide_eq_false (by omega)
    rw [if_neg hlt] at SB
    clear c1 c2 c3 c5 d0 d1 d2 d3 d4 c6 c7
    go_wp2_with fail
    go_end0
    rw [SB.out]
    exact ⟨rfl,v,u,H.out.fewer (fun p hp => List.mem_cons_of_mem _ hp) HS3.out,HQ.out⟩
def LLs (w : World) (a : Option Addr) (G : List (List Nat)) : Prop :=
 G.length <= 4611686018427387903 /\ ∀ i (h : i < G.length),∃ g o s d,a = some ⟨g,o,none⟩ /\ g < w.heap.size /\ w.cell? ⟨g,o + i,none⟩ = some (.slice s G[i].length d) /\ G[i].length <= d /\ LV w s G[i]
def UV (w : World) (a : Option Addr) (l : List Nat) : Prop :=
 l.length <= 4611686018427387903 /\ ∀ i (h : i < l.length),∃ g o,a = some ⟨g,o,none⟩ /\ g < w.heap.size /\ w.cell? ⟨g,o + i,none⟩ = some (.int .u64 (l[i] : Int))
set_option maxRecDepth 100000 in
set_option maxHeartbeats 3200000 in
theorem usame_any (w : World) (a b : Option Addr) (l : List Nat) (ca cb : Nat) (hA : UV w a l) (hB : UV w b l) :
  Calls Tryz.prog 27 #[.slice a l.length ca,.slice b l.length cb] w fun e w' => e = .returned (.bool true) /\ Below w.heap.size w w' := by
 have HA := Lib.hid hA
 have HB := Lib.hid hB
 have hz := hA.1
 obtain ⟨n,hn⟩ : ∃ n,l.length = n := ⟨_,rfl⟩
 have HN := Lib.hid hn
 rw [hn] at hz ⊢
 clear hA hB hn
 have hnn : ((n : Int) != (n : Int)) = false := by simp
 go_enter Tryz.func27,Tryz.ntmps27
 go_wp2_with fail
 go_loopw [5] (fun v5 wr => ∃ i q : Nat,v5 = .int .i64 (i : Int) /\ i <= n /\ wr = w.drewN q) (fun v5 _ => n - (intOf v5).toNat)
 case atStart => exact ⟨0,0,rfl,Nat.zero_le _,rfl⟩
 case round =>
  obtain ⟨i,q,rfl,hi,rfl⟩ := hrel
  by_cases hlt : i < n
  ·obtain ⟨g,o,rfl,hg,hc⟩ := HA.out.2 i (by rw [HN.out]; exact hlt)
   obtain ⟨g2,o2,rfl,hg2,hc2⟩ := HB.out.2 i (by rw [HN.out]; exact hlt)
   obtain ⟨v,hv⟩ : ∃ v,l[i]'(by rw [HN.out]; exact hlt) = v := ⟨_,rfl⟩
   rw [hv] at hc hc2
   have i1 : decide ((i : Int) < (n : Int)) = true := decide_eq_true (by omega)
   have i2 : ((v : Int) != (v : Int)) = false := by simp
   clear hv
   go_upto_region 6 with fail
   go_quiet (fail)
   go_wp2_with fail
   go_roundw
   case rel => exact ⟨i + 1,_,by go_num,by omega,(by first | rfl | exact drewN_add _ _ _)⟩
   case measure => simp [intOf]; omega
  ·have i1 : decide ((i : Int) < (n : Int)) = false := decide_eq_false (by omega)
   go_wp2_with fail
   go_ret
   exact ⟨rfl,⟨rfl,rfl,rfl,Nat.le_refl _,fun _ _ => rfl⟩⟩
set_option maxRecDepth 100000 in
set_option maxHeartbeats 3200000 in
theorem alike_same (w : World) (a b : Option Addr) (G : List (List Nat)) (ca cb : Nat) (hA : LLs w a G) (hB : LLs w b G) :
  Calls Tryz.prog 35 #[.slice a G.length ca,.slice b G.length cb] w fun e w' => e = .returned (.bool true) /\ Below w.heap.size w w' := by
 have HA := Lib.hid hA
 have HB := Lib.hid hB
 have hz := hA.1
 obtain ⟨n,hn⟩ : ∃ n,G.length = n := ⟨_,rfl⟩
 have HN := Lib.hid hn
 rw [hn] at hz ⊢
 clear hA hB hn
 have hnn : ((n : Int) != (n : Int)) = false := by simp
 go_enter Tryz.func35,Tryz.ntmps35
 go_wp2_with fail
 go_loopw [5] (fun v5 wr => ∃ i q : Nat,v5 = .int .i64 (i : Int) /\ i <= n /\ wr = w.drewN q) (fun v5 _ => n - (intOf v5).toNat)
 case atStart => exact ⟨0,0,rfl,Nat.zero_le _,rfl⟩
 case round =>
  obtain ⟨i,q,rfl,hi,rfl⟩ := hrel
  by_cases hlt : i < n
  ·obtain ⟨g,o,s,d,rfl,hg,hc,hd,hs⟩ := HA.out.2 i (by rw [HN.out]; exact hlt)
   obtain ⟨g2,o2,s2,d2,rfl,hg2,hc2,hd2,hs2⟩ := HB.out.2 i (by rw [HN.out]; exact hlt)
   have HS := Lib.hid (And.intro hs hs2)
   obtain ⟨l,hl⟩ : ∃ l,G[i]'(by rw [HN.out]; exact hlt) = l := ⟨_,rfl⟩
   rw [hl] at hc hd hc2 hd2 HS
   have hm9 := HS.out.1.1
   obtain ⟨m,hm⟩ : ∃ m,l.length = m := ⟨_,rfl⟩
   have HM := Lib.hid hm
   rw [hm] at hc hd hc2 hd2 hm9
   have i1 : decide ((i : Int) < (n : Int)) = true := decide_eq_true (by omega)
   have i2 : ((m : Int) != (m : Int)) = false := by simp
   clear hl hm hs hs2
   go_upto_region 6 with fail
   go_quiet (fail)
   generalize hq2 : nq = q2
   clear hq2
   go_wp2_with fail
   go_loopw [6] (fun v6 wr => ∃ j q : Nat,v6 = .int .i64 (j : Int) /\ j <= m /\ wr = w.drewN q) (fun v6 _ => m - (intOf v6).toNat)
   case atStart => exact ⟨0,_,rfl,Nat.zero_le _,(by first | rfl | exact drewN_add _ _ _)⟩
   case round =>
    obtain ⟨j,q,rfl,hj,rfl⟩ := hrel
    by_cases hjt : j < m
    ·obtain ⟨g3,o3,rfl,hg3,hc3,hb3⟩ := HS.out.1.2 j (by rw [HM.out]; exact hjt)
     obtain ⟨g4,o4,rfl,hg4,hc4,hb4⟩ := HS.out.2.2 j (by rw [HM.out]; exact hjt)
     obtain ⟨v,hv⟩ : ∃ v,l[j]'(by rw [HM.out]; exact hjt) = v := ⟨_,rfl⟩
     rw [hv] at hc3 hc4
     have j1 : decide ((j : Int) < (m : Int)) = true := decide_eq_true (by omega)
     have j2 : ((v : Int) != (v : Int)) = false := by simp
     clear hv hb3 hb4
     go_upto_region 11 with fail
     go_quiet (fail)
     go_wp2_with fail
     go_roundw
     case rel => exact ⟨j + 1,_,by go_num,by omega,(by first | rfl | exact drewN_add _ _ _)⟩
     case measure => simp [intOf]; omega
    ·have j1 : decide ((j : Int) < (m : Int)) = false := decide_eq_false (by omega)
     go_wp2_with fail
     go_roundw
     case rel => exact ⟨i + 1,_,by go_num,by omega,(by first | rfl | exact drewN_add _ _ _)⟩
     case measure => simp [intOf]; omega
  ·have i1 : decide ((i : Int) < (n : Int)) = false := decide_eq_false (by omega)
   go_wp2_with fail
   go_ret
   exact ⟨rfl,⟨rfl,rfl,rfl,Nat.le_refl _,fun _ _ => rfl⟩⟩
theorem isIn_true {l : List Nat} {v : Nat} (i : Nat) (hi : i < l.length) (h : l[i] = v) : isIn l v = true := isIn_mem.2 (h ▸ List.getElem_mem hi)
theorem isIn_false {l : List Nat} {v : Nat} (hp : l.Pairwise (· < ·)) (i : Nat) (hi : i ≤ l.length) (hb : ∀ j (h : j < l.length), j < i → l[j] < v) (h : ∀ h : i < l.length, v < l[i]) : isIn l v = false := by
 refine isIn_no (fun hm => ?_)
 obtain ⟨j,hj,rfl⟩ := List.mem_iff_getElem.1 hm
 rcases Nat.lt_or_ge j i with h1 | h1
 ·exact absurd (hb j hj h1) (Nat.lt_irrefl _)
 ·have h2 : i < l.length := by omega
  have h3 := h h2
  rcases Nat.eq_or_lt_of_le h1 with e | e
  ·subst e; omega
  ·have := List.pairwise_iff_getElem.1 hp i j h2 hj e
   omega
set_option maxRecDepth 100000 in
set_option maxHeartbeats 3200000 in
theorem in_any (w : World) (a : Option Addr) (l : List Nat) (cap v : Nat) (hA : LV w a l) (hp : l.Pairwise (· < ·)) :
  Calls Tryz.prog 92 #[.slice a l.length cap,.int .u32 (v : Int)] w fun e w' => e = .returned (.bool (isIn l v)) /\ w = w' := by
 have HA := Lib.hid hA
 have hl9 := hA.1
 obtain ⟨r,hr⟩ : ∃ r,isIn l v = r := ⟨_,rfl⟩
 have YES : Hid (∀ i (hi : i < l.length),l[i] = v -> r = true) := Lib.hid (fun i hi h => hr ▸ isIn_true i hi h)
 have NO : Hid (∀ i,i <= l.length -> (∀ j (h : j < l.length),j < i -> l[j] < v) -> (∀ h : i < l.length,v < l[i]) -> r = false) := Lib.hid (fun i hi h1 h2 => hr ▸ isIn_false hp i hi h1 h2)
 rw [hr]
 obtain ⟨n,hn⟩ : ∃ n,l.length = n := ⟨_,rfl⟩
 have HN := Lib.hid hn
 rw [hn] at hl9 ⊢
 clear hA hr hn hp
 go_enter Tryz.func92,Tryz.ntmps92
 go_wp2_with fail
 go_loopw [5] (fun v5 wr => ∃ i : Nat,v5 = .int .i64 (i : Int) /\ i <= n /\ (∀ j (h : j < l.length),j < i -> l[j] < v) /\ wr = w) (fun v5 _ => n - (intOf v5).toNat)
 case atStart => exact ⟨0,rfl,Nat.zero_le _,fun j _ h => by omega,rfl⟩
 case round =>
  obtain ⟨i,rfl,hi,hag,rfl⟩ := hrel
  have AG := Lib.hid hag
  clear hag
  by_cases hlt : i < n
  ·have i1 : decide ((i : Int) < (n : Int)) = true := decide_eq_true (by omega)
   have hil : i < l.length := by rw [HN.out]; exact hlt
   obtain ⟨g,o,ha,c1,b1⟩ := HA.out.cellAt i hil
   subst ha
   obtain ⟨y,hy⟩ : ∃ y,l[i] = y := ⟨_,rfl⟩
   rw [hy] at c1 b1
   rcases Nat.lt_trichotomy y v with h1 | h1 | h1
   ·have i2 : decide ((y : Int) <= (v : Int)) = true := decide_eq_true (by omega)
    have i2n : decide (y <= v) = true := decide_eq_true (by omega)
    have i3 : ((y : Int) == (v : Int)) = false := beq_eq_false_iff_ne.2 (by omega)
    have NX : Hid (∀ j (h : j < l.length),j < i + 1 -> l[j] < v) := Lib.hid (fun j h hj => by
     rcases Nat.lt_or_ge j i with h2 | h2
     ·exact AG.out j h h2
     ·have : j = i := by omega
      subst this
      rw [hy]; exact h1)
    clear hy h1
    go_wp2_with fail
    go_roundw
    case rel => exact ⟨i + 1,by go_num,by omega,NX.out,by first | rfl | trivial⟩
    case measure => simp [intOf]; omega
   ·have i2 : decide ((y : Int) <= (v : Int)) = true := decide_eq_true (by omega)
    have i2n : decide (y <= v) = true := decide_eq_true (by omega)
    have i3 : ((y : Int) == (v : Int)) = true := by simp [h1]
    obtain rfl := YES.out i hil (hy.trans h1)
    clear hy h1
    go_wp2_with fail
    go_ret
    exact ⟨rfl,rfl⟩
   ·have i2 : decide ((y : Int) <= (v : Int)) = false := decide_eq_false (by omega)
    have i2n : decide (y <= v) = false := decide_eq_false (by omega)
    obtain rfl := NO.out i (by omega) AG.out (fun _ => by rw [hy]; exact h1)
    clear hy h1
    go_wp2_with fail
    go_ret
    exact ⟨rfl,rfl⟩
  ·have hin : i = n := by omega
   subst hin
   have i1 : decide ((i : Int) < (i : Int)) = false := decide_eq_false (by omega)
   obtain rfl := NO.out i (by rw [HN.out]; exact Nat.le_refl _) AG.out (fun h => by rw [HN.out] at h; omega)
   go_wp2_with fail
   go_ret
   exact ⟨rfl,rfl⟩
theorem own_idx {w : World} {base : Nat} {T : TypeId} {v : Value} {n : Nat} {xs : List Value} (h : w.ownsRow base T 1 v n xs) (j : Nat) (hj : j < n) :
  ∃ g cap,v = .slice (some ⟨g,0,none⟩) n cap /\ n <= cap /\ base <= g /\ w.cell? ⟨g,j,none⟩ = xs[j]? /\ (∀ i,w.frozen? ⟨g,i,none⟩ = false) /\ ∀ u,(w.setCell ⟨g,j,none⟩ u).ownsRow base T 1 v n (xs.set j u) := by
 rcases h.2 with ⟨_,h0⟩ | ⟨g,cap,cur,rfl,hb,hg,hn,_⟩
 ·omega
 ·exact ⟨g,cap,rfl,hn,hb,h.cellAt j (by omega),fun i => h.frozenAt i,fun u => (h.stored j u).1⟩
def runV (q : List Nat × Nat) : List Value := intV (q.1 ++ [q.2])
theorem runV_last (I : List Nat) (z : Nat) : (runV (I, z))[I.length]? = some (Value.int .i64 (z : Int)) := by
 unfold runV intV
 rw [List.map_append,List.getElem?_append_right (Nat.le_of_eq (List.length_map _)),List.length_map,Nat.sub_self]
 rfl
theorem runV_set (I : List Nat) (z z2 : Nat) : (runV (I, z)).set I.length (Value.int .i64 (z2 : Int)) = runV (I, z2) := by
 unfold runV intV
 rw [List.map_append,List.set_append_right _ _ (Nat.le_of_eq (List.length_map _)),List.length_map,Nat.sub_self,List.map_append]
 rfl
theorem runV_length (q : List Nat × Nat) : (runV q).length = q.1.length + 1 := by simp [runV, intV]
set_option maxRecDepth 100000 in
set_option maxHeartbeats 3200000 in
theorem druns_any (w : World) (a : Option Addr) (succ : List Nat) (capa : Nat) (b : Option Addr) (ref : List Nat) (capb : Nat) (hA : LV w a succ) (hB : LV w b ref) (hs : Ris succ) (hr : Ris ref) :
  Calls Tryz.prog 91 #[.slice a succ.length capa,.slice b ref.length capb] w fun e w' => ∃ v,e = .returned v /\ w'.ownsRow w.heap.size 3 1 v ((runs succ ref).1.length + 1) (runV (runs succ ref)) /\ Below w.heap.size w w' := by
 obtain ⟨j0,hj,hj0,hj1,hj2⟩ := info_parts Tryz.infoInt
 have HB := Lib.hid hB
 have hrl := hr.len
 have HR := Lib.hid hr.2
 have IN := Lib.hid (fun W (k : Below w.heap.size w W) v => in_any W a succ capa v (hA.below k) hs.1)
 obtain ⟨Q,hQ⟩ : ∃ Q,runs succ ref = Q := ⟨_,rfl⟩
 have HQ : Hid (Q = ref.foldl (fun q v => rst q (isIn succ v)) ([],0)) := Lib.hid (by rw [<- hQ]; rfl)
 rw [hQ]
 obtain ⟨n,hn⟩ : ∃ n,ref.length = n := ⟨_,rfl⟩
 have HN := Lib.hid hn
 rw [hn] at hrl ⊢
 clear hA hB hs hr hQ hn
 go_enter Tryz.func91,Tryz.ntmps91
 go_wp2_with fail
 go_loopw [5,6] (fun v5 v6 wr => ∃ (i : Nat) (q : List Nat × Nat),v6 = .int .i64 (i : Int) /\ i <= n /\ q.1.length <= i /\ q.2 <= i /\ Q = (ref.drop i).foldl (fun q v => rst q (isIn succ v)) q /\ wr.ownsRow w.heap.size 3 1 v5 (q.1.length + 1) (runV q) /\ Below w.heap.size w wr) (fun _ v6 _ => n - (intOf v6).toNat)
 case atStart => exact ⟨0,([],0),rfl,Nat.zero_le _,Nat.le_refl _,Nat.le_refl _,HQ.out,by
  have h := World.ownsRow_lit (base := w.heap.size) (e := 3) (size := 1) w #[.int .i64 0] 1 (Nat.le_refl _) (by simp only [maxLen]; omega) rfl
  exact h,(Below.refl _ _).alloc (Nat.le_refl _) _⟩
 case round =>
  obtain ⟨i,q,rfl,hi,hq1,hq2,hE,hown,hbel⟩ := hrel
  have HE := Lib.hid hE
  have HO := Lib.hid hown
  have HK := Lib.hid hbel
  obtain ⟨s5,d5,rfl⟩ := own_shape hown
  obtain ⟨I,z⟩ := q
  obtain ⟨m,hm⟩ : ∃ m,I.length + 1 = m := ⟨_,rfl⟩
  dsimp only at hq1 hq2 HE HO ⊢
  rw [hm] at HO ⊢
  have HM := Lib.hid hm
  clear hE hown hbel
  by_cases hlt : i < n
  ·have i1 : decide ((i : Int) < (n : Int)) = true := decide_eq_true (by omega)
   have hil : i < ref.length := by rw [HN.out]; exact hlt
   obtain ⟨g,o,hb,c1,b1⟩ := (HB.out.below HK.out).cellAt i hil
   subst hb
   have hE2 := HE.out
   rw [List.drop_eq_getElem_cons hil,List.foldl_cons] at hE2
   obtain ⟨y,hy⟩ : ∃ y,ref[i] = y := ⟨_,rfl⟩
   rw [hy] at c1 b1 hE2
   have IN1 := Lib.hid (IN.out _ HK.out y)
   obtain ⟨own,hown⟩ : ∃ o,isIn succ y = o := ⟨_,rfl⟩
   rw [hown] at IN1 hE2
   have HE2 := Lib.hid hE2
   clear hy hE2 hown HE
   obtain ⟨cb,hcb⟩ : ∃ cb,(!own == ((m : Int) % 2 == 1)) = cb := ⟨_,rfl⟩
   have HCB : Hid (rst (I,z) own = if cb then (I ++ [z],1) else (I,z + 1)) := Lib.hid (by
    have e : (own != ((I.length + 1) % 2 == 1)) = cb := by
     rw [<- hcb,hm]
     have e2 : ((m : Int) % 2 == 1) = (m % 2 == 1) := by
      rcases Nat.mod_two_eq_zero_or_one m with h | h
      ·rw [h,show (m : Int) % 2 = 0 by omega]; rfl
      ·rw [h,show (m : Int) % 2 = 1 by omega]; rfl
     rw [e2]
     cases own <;> cases (m % 2 == 1) <;> rfl
    unfold rst
    dsimp only
    rw [e])
   go_wp2_with fail
   with_reducible refine IN1.out.mono ?_
   rintro e w2 ⟨rfl,rfl⟩
   clear IN1 c1
   go_upto_if 24 with fail
   cases cb with
   | true =>
    have OWN1 := Lib.hid (HO.out.alloc (.cells #[.int .i64 0] 3))
    have C1 : Hid (∀ j u,([.int .i64 0] : List Value)[j]? = some u -> (wr.alloc (.cells #[.int .i64 0] 3)).cell? ((⟨wr.heap.size,0,none⟩ : Addr).add j) = some u) := Lib.hid (fun j u hu => by
     rw [Addr.add_lit,cell_of_row _ _ _ _ _ _ (heap_alloc_new _ _),Nat.zero_add]; simpa using hu)
    have C3 : Hid (m + 1 <= maxLen) := Lib.hid (by simp only [maxLen]; omega)
    have C4 : Hid ((m + 1) * 8 <= 140737488355328) := Lib.hid (by omega)
    have C5 : Hid (w.heap.size <= (wr.alloc (.cells #[.int .i64 0] 3)).heap.size) := Lib.hid (by have := HK.out.size; simp; omega)
    go_wp2_with (at_builtin; refine wpList_append_at _ rfl _ _ 83 rfl w.heap.size 3 j0 _ 1 8 Tryz.underlying83 hj hj0 hj1 hj2 rfl (by decide) _ m _ rfl OWN1.out ⟨wr.heap.size,0,none⟩ 1 1 [.int .i64 0] rfl rfl C1.out (fun u hu => by simp at hu; subst hu; rfl) C3.out C4.out C5.out (by decide) ?_)
    intro v' w3 own' hg3 hw3
    have KA : Hid (Below w.heap.size w (wr.alloc (.cells #[.int .i64 0] 3))) := Lib.hid (HK.out.alloc HK.out.size _)
    have HK3 : Hid (Below w.heap.size w w3) := Lib.hid (KA.out.grown hg3 KA.out.size (fun k hk => (OWN1.out.lt k hk).1))
    obtain ⟨g3,d3,rfl,hd3,hb3,cell3,fz3,st3⟩ := own_idx own' m (Nat.lt_succ_self _)
    have hx : (runV (I,z) ++ [Value.int .i64 0])[m]? = some (Value.int .i64 0) := by
     rw [List.getElem?_append_right (by rw [runV_length]; show I.length + 1 <= m; omega),runV_length,show m - (I.length + 1) = 0 by omega]
     rfl
    rw [hx] at cell3
    have ST : Hid ((w3.setCell ⟨g3,m,none⟩ (.int .i64 1)).ownsRow w.heap.size 3 1 (.slice (some ⟨g3,0,none⟩) (m + 1) d3) (m + 1) (runV (I ++ [z],1))) := Lib.hid (by
     have h := st3 (.int .i64 1)
     have e : (runV (I,z) ++ [Value.int .i64 0]).set m (Value.int .i64 1) = runV (I ++ [z],1) := by
      rw [List.set_append_right _ _ (by rw [runV_length]; show I.length + 1 <= m; omega),runV_length,show m - (I.length + 1) = 0 by omega]
      simp [runV,intV]
     rw [e] at h
     exact h)
    have KK : Hid (Below w.heap.size w (w3.setCell ⟨g3,m,none⟩ (.int .i64 1))) := Lib.hid (HK3.out.setCell hb3 _)
    have EQ : Hid (Q = (ref.drop (i + 1)).foldl (fun q v => rst q (isIn succ v)) (I ++ [z],1)) := Lib.hid (by rw [HE2.out,HCB.out]; rfl)
    have ST2 : Hid ((w3.setCell ⟨g3,m,none⟩ (.int .i64 1)).ownsRow w.heap.size 3 1 (.slice (some ⟨g3,0,none⟩) (m + 1) d3) ((I ++ [z]).length + 1) (runV (I ++ [z],1))) := Lib.hid (by rw [List.length_append,List.length_singleton,hm]; exact ST.out)
    clear own' hg3 hw3 C1 C3 C4 C5 OWN1 hx st3 hcb KA ST HCB HE2
    go_wp2_with fail
    go_roundw
    case rel => exact ⟨i + 1,(I ++ [z],1),by go_num,by omega,by rw [List.length_append,List.length_singleton]; omega,by show 1 <= i + 1; omega,EQ.out,ST2.out,KK.out⟩
    case measure => simp [intOf]; omega
   | false =>
    obtain ⟨k,hk⟩ : ∃ k,I.length = k := ⟨_,rfl⟩
    obtain ⟨g3,d3,hv3,hd3,hb3,cell3,fz3,st3⟩ := own_idx HO.out k (by omega)
    injection hv3 with hv1 hvn hv2
    subst hv1 hv2
    have hx : (runV (I,z))[k]? = some (Value.int .i64 (z : Int)) := hk ▸ runV_last I z
    rw [hx] at cell3
    obtain ⟨z2,hz2⟩ : ∃ q,z + 1 = q := ⟨_,rfl⟩
    have hzI : (z : Int) + 1 = (z2 : Int) := by omega
    have EQ : Hid (Q = (ref.drop (i + 1)).foldl (fun q v => rst q (isIn succ v)) (I,z2)) := Lib.hid (by rw [HE2.out,HCB.out,<- hz2]; rfl)
    have ST2 : Hid ((wr.setCell ⟨g3,k,none⟩ (.int .i64 (z2 : Int))).ownsRow w.heap.size 3 1 (.slice (some ⟨g3,0,none⟩) m d5) (I.length + 1) (runV (I,z2))) := Lib.hid (by
     have h := st3 (.int .i64 (z2 : Int))
     have e : (runV (I,z)).set k (Value.int .i64 (z2 : Int)) = runV (I,z2) := hk ▸ runV_set I z z2
     rw [e] at h
     rw [hm]
     exact h)
    have KK : Hid (Below w.heap.size w (wr.setCell ⟨g3,k,none⟩ (.int .i64 (z2 : Int)))) := Lib.hid (HK.out.setCell hb3 _)
    have mk : (m : Int) - 1 = (k : Int) := by omega
    have km : k < m := by omega
    have k9 : k <= 65536 := by have : I.length <= i := hq1; have : I.length = k := hk; omega
    have z9 : z <= 65536 := by omega
    clear hvn hx st3 hcb HCB HE2 hk hm hz2 HM
    go_wp2_with fail
    go_roundw
    case rel => exact ⟨i + 1,(I,z2),by go_num,by omega,by show I.length <= i + 1; omega,by show z2 <= i + 1; omega,EQ.out,ST2.out,KK.out⟩
    case measure => simp [intOf]; omega
  ·have hin : i = n := by omega
   subst hin
   have i1 : decide ((i : Int) < (i : Int)) = false := decide_eq_false (by omega)
   have hQ : Q = (I,z) := by
    rw [HE.out,List.drop_eq_nil_of_le (by rw [HN.out]; exact Nat.le_refl _)]
    rfl
   subst hQ
   go_wp2_with fail
   go_ret
   exact ⟨_,rfl,HO.out,HK.out⟩
end Go.Proofs.YtflnpcgnenhogaaGreatDoor.ls
