/- Own lemmas, laid together. -/
import Derived.Test.YtflnpcgnenhogaaGreatDoorBd16
import Derived.BigQuiet
import Derived.BigRegion
import Derived.Deep.CutRange
import Derived.Laws.BytesArg
namespace Go.Proofs.YtflnpcgnenhogaaGreatDoor.bit
open Go.RowKit Go.Proofs.YtflnpcgnenhogaaGreatDoor.own

def txt (l : List Nat) : ByteArray := ⟨(l.map UInt8.ofNat).toArray⟩
theorem txt_size (l : List Nat) : (txt l).size = l.length := by
 show (l.map UInt8.ofNat).toArray.size = l.length
 simp

theorem Put_ok (x : Nat → Nat) (c : Nat) (w : World) (wb : Nat) (l : Bits) (v n : Nat) (hv : v < 2 ^ n) (hn : n ≤ 64) (hl : l.length + n ≤ 134217728) (h : WrC x c w wb l) :
  Calls Tryz.prog 125 #[.pointer (some ⟨wb,0,none⟩),.int .u64 (v : Int),.int .i64 (n : Int)] w fun e w' => e = .returned (.int .i64 0) /\ ∃ x', Fr x x' (fun e => e = c) w w' /\ WrC x' c w' wb (l ++ ofN n v) := by
 have H := Lib.hid h
 have FI := Lib.hid (fits_any v n w)
 have D : Hid (decide (64 <= n \/ v < 2 ^ n) = true) := Lib.hid (decide_eq_true (.inr hv))
 have PU := Lib.hid (put_any x c w wb l v n hv hn hl h)
 have c1 : w.cell? ⟨wb,1,none⟩ = some (.int .i64 (l.length : Int)) := by obtain ⟨_,h0,_⟩ := h; rw [cell_of_row w wb _ _ _ _ h0]; rfl
 obtain ⟨ll,hll⟩ : ∃ k,l.length = k := ⟨_,rfl⟩
 rw [hll] at c1 hl
 have i1 : ¬ (n : Int) < 0 := by omega
 have i2 : ¬ (64 : Int) < (n : Int) := by omega
 have i3 : ¬ (134217728 : Int) - (ll : Int) < (n : Int) := by omega
 have hw : IntKind.i64.wrap ((134217728 : Int) - (ll : Int)) = 134217728 - (ll : Int) := IntWalk.i64_in _ (by omega)
 clear h hv hn hl
 go_enter Tryz.func125,Tryz.ntmps125
 go_wp2_with fail
 refine FI.out.mono ?_
 rintro e w1 ⟨rfl,rfl⟩
 rw [D.out]
 go_wp2_with fail
 refine PU.out.mono ?_
 rintro e w1 ⟨rfl,x', hf,hW⟩
 have HF := Lib.hid hf
 have HW := Lib.hid hW
 clear hf hW
 go_wp2_with fail
 go_ret
 exact ⟨rfl,x', HF.out,HW.out⟩

theorem text_any (x : Nat → Nat) (c : Nat) (w : World) (wb : Nat) (l : Bits) (h : WrC x c w wb l) :
  Calls Tryz.prog 60 #[.pointer (some ⟨wb,0,none⟩)] w fun e w' => e = .returned (.tuple #[.string (txt (packN l)),.int .i64 0]) /\ w = w' := by
 obtain ⟨v,h0,_,ho,_⟩ := h
 have c0 : w.cell? ⟨wb,0,none⟩ = some v := by rw [cell_of_row w wb _ _ _ _ h0]; rfl
 obtain ⟨a,cap,hv⟩ := own_shape ho
 have hconv : (convert 139 9 v).run Tryz.prog w = .ok (.string (txt (packN l))) w := by
  rcases ho.2 with ⟨hv,hz⟩ | ⟨g,cap,cur,hv,_⟩
  ·have hp : packN l = [] := List.eq_nil_of_length_eq_zero hz
   rw [hv,hp]
   exact run_convert_bytes_nil (P := Tryz.prog) w 139 5 (by kernel_rfl) (by kernel_rfl) 0 0 9 (by kernel_rfl)
  ·have hc := run_convert_bytes_back (P := Tryz.prog) w 139 9 5 ⟨g,0,none⟩ cap ((packN l).map UInt8.ofNat) (by kernel_rfl) (by kernel_rfl) (by kernel_rfl) (fun j hj => by
    have hj' : j < (packN l).length := by simpa using hj
    rw [hv] at ho
    rw [Addr.add_lit,Nat.zero_add,ho.cellAt j (by omega)]
    have hlt := packN_lt l _ (List.getElem_mem hj')
    simp [nvs,hj']
    omega)
   rw [List.length_map] at hc
   rw [hv]
   exact hc
 subst hv
 clear h0 ho
 go_enter Tryz.func60,Tryz.ntmps60
 go_wp2_with fail
 go_ret2
 exact ⟨rfl,rfl⟩
def RdC (x : Nat → Nat) (c : Nat) (w : World) (rb : Nat) (s : ByteArray) (a : Nat) : Prop :=
 w.heap[rb]? = some (.cells #[.string s,.int .i64 (a : Int)] 96 (0,0)) /\ x rb = c /\ a <= 8 * s.size /\ s.size <= 1152921504606846975

def nats (s : ByteArray) : List Nat := s.data.toList.map UInt8.toNat
theorem nats_length (s : ByteArray) : (nats s).length = s.size := by simp [nats]

theorem nats_at (s : ByteArray) (q : Nat) (h : q < s.size) (h' : q < (nats s).length) : (nats s)[q] = s[q].toNat := by
 apply Option.some.inj
 rw [<- List.getElem?_eq_getElem h']
 show (s.data.toList.map UInt8.toNat)[q]? = _
 rw [List.getElem?_map,List.getElem?_eq_getElem (by simpa using h)]
 rfl

theorem left_any (x : Nat → Nat) (c : Nat) (w : World) (rb : Nat) (s : ByteArray) (a : Nat) (h : RdC x c w rb s a) :
  Calls Tryz.prog 111 #[.pointer (some ⟨rb,0,none⟩)] w fun e w' => e = .returned (.int .i64 ((8 * s.size - a : Nat) : Int)) /\ ∃ m,w.drewN m = w' := by
 obtain ⟨h0,-,hb,hs⟩ := h
 have c0 : w.cell? ⟨rb,0,none⟩ = some (.string s) := by rw [cell_of_row w rb _ _ _ _ h0]; rfl
 have c1 : w.cell? ⟨rb,1,none⟩ = some (.int .i64 (a : Int)) := by rw [cell_of_row w rb _ _ _ _ h0]; rfl
 have hw1 : IntKind.i64.wrap (8 * (s.size : Int)) = 8 * (s.size : Int) := IntWalk.i64_in _ (by omega)
 have hw2 : IntKind.i64.wrap (8 * (s.size : Int) - (a : Int)) = ((8 * s.size - a : Nat) : Int) := by rw [IntWalk.i64_in _ (by omega)]; omega
 clear h0
 go_enter Tryz.func111,Tryz.ntmps111
 go_wp2_with fail
 go_quiet (fail)
 go_wp2_with fail
 go_ret
 exact ⟨rfl,_,rfl⟩

set_option maxRecDepth 100000 in
theorem shift_any (s : ByteArray) (a v t rb pb vb : Nat) (w : World) (ht : t ≤ 8 - a % 8) (hat : a / 8 < s.size) (hs : s.size ≤ 1152921504606846975)
  (hpb : w.cell? ⟨pb,0,none⟩ = some (.pointer (some ⟨rb,0,none⟩))) (hrb : w.heap[rb]? = some (.cells #[.string s,.int .i64 (a : Int)] 96 (0,0))) (hvb : w.heap[vb]? = some (.cells #[.int .u64 (v : Int)] 97 (0,0)))
  (hpv : pb ≠ vb) (hrv : rb ≠ vb) (hv : v * 2 ^ t + num (((unpack (nats s)).drop a).take t) < 18446744073709551616) :
  Calls Tryz.prog 112 #[.int .i64 (t : Int),.pointer (some ⟨pb,0,none⟩),.pointer (some ⟨vb,0,none⟩)] w fun e w' => e = .returned (.tuple #[]) /\
   ∃ q,w' = ((w.drewN q).setCell ⟨vb,0,none⟩ (.int .u64 ((v * 2 ^ t + num (((unpack (nats s)).drop a).take t) : Nat) : Int))).setCell ⟨rb,1,none⟩ (.int .i64 ((a + t : Nat) : Int)) := by
 have c0 : w.cell? ⟨rb,0,none⟩ = some (.string s) := by rw [cell_of_row w rb _ _ _ _ hrb]; rfl
 have c1 : w.cell? ⟨rb,1,none⟩ = some (.int .i64 (a : Int)) := by rw [cell_of_row w rb _ _ _ _ hrb]; rfl
 have cf : ∀ j,w.frozen? ⟨rb,j,none⟩ = false := fun j => frozen_of_row w rb j _ _ hrb
 have d0 : w.cell? ⟨vb,0,none⟩ = some (.int .u64 (v : Int)) := by rw [cell_of_row w vb _ _ _ _ hvb]; rfl
 have df : ∀ j,w.frozen? ⟨vb,j,none⟩ = false := fun j => frozen_of_row w vb j _ _ hvb
 obtain ⟨r,hr⟩ : ∃ r,a % 8 = r := ⟨_,rfl⟩
 have ha7 := and7 a (by omega)
 rw [hr] at ha7 ht
 obtain ⟨q,hq⟩ : ∃ q,a / 8 = q := ⟨_,rfl⟩
 rw [hq] at hat
 obtain ⟨k,hk⟩ : ∃ k,8 - r = k := ⟨_,rfl⟩
 have hr8 : (8 : Int) - (r : Int) = (k : Int) := by omega
 have hq8 : (a : Int) / 8 = (q : Int) := by omega
 have hi0 : (0 : Int) <= (q : Int) := by omega
 have hi1 : (q : Int) < (s.size : Int) := by omega
 have hw1 : IntKind.i64.wrap ((k : Int) - (t : Int)) = ((k - t : Nat) : Int) := by rw [IntWalk.i64_in _ (by omega)]; omega
 have hqn : q < (nats s).length := by rw [nats_length]; exact hat
 have hby : (nats s)[q] = s[q].toNat := nats_at s q hat hqn
 have hb256 : s[q].toNat < 256 := s[q].toNat_lt
 obtain ⟨pc,hpc⟩ : ∃ pc,num (((unpack (nats s)).drop a).take t) = pc := ⟨_,rfl⟩
 have hpcv : pc = s[q].toNat % 2 ^ k / 2 ^ (k - t) := by
  have h1 := unpack_within (nats s) a t (by rw [hq]; exact hqn) (by rw [hr]; exact ht)
  rw [<- hpc,h1,hr,num_within _ r t ht,hk]
  congr 2
  rw [<- hby]
  congr 1
 rw [hpc] at hv ⊢
 have hk8 : k <= 8 := by omega
 have hp2 : (2 : Nat) ^ k <= 2 ^ 8 := Nat.pow_le_pow_right (by decide) hk8
 have hp1 : 0 < (2 : Nat) ^ k := Nat.pow_pos (by decide)
 have hpt : ((2 : Int) ^ k) = ((2 ^ k : Nat) : Int) := by simp
 have hand : bits BinOp.and IntKind.i64 (s[q].toNat : Int) (wrap64 (wrap64 (2 ^ k) - 1)) / 2 ^ (k - t) = (pc : Int) := by
  rw [IntWalk.wrap64_in (2 ^ k) (by rw [hpt]; omega),IntWalk.wrap64_in _ (by rw [hpt]; omega)]
  have h1 := bits_mask .i64 63 (by decide) wraps_i64_63 k (by omega) (s[q].toNat : Int) (by omega) (by omega)
  rw [h1,hpcv]
  simp
 have hpt2 : pc < 2 ^ t := by rw [<- hpc]; exact Nat.lt_of_lt_of_le (num_lt _) (Nat.pow_le_pow_right (by decide) (by rw [List.length_take]; omega))
 have hor2 : bits BinOp.or IntKind.u64 (IntKind.u64.wrap ((v : Int) * 2 ^ t)) (IntKind.u64.wrap (pc : Int)) = ((v * 2 ^ t + pc : Nat) : Int) := by
  have e1 : ((v : Int) * 2 ^ t) = ((v * 2 ^ t : Nat) : Int) := by simp
  rw [e1,wraps_u64_64 _ (by omega) (by omega),wraps_u64_64 _ (by omega) (by omega)]
  have h1 := (bits_nat .u64 64 (by decide) wraps_u64_64 (v * 2 ^ t) pc (by omega) (by omega)).2
  rw [h1,Nat.mul_comm v,<- Nat.two_pow_add_eq_or_of_lt hpt2]
 have hsum : IntKind.i64.wrap ((a : Int) + (t : Int)) = (a : Int) + (t : Int) := IntWalk.i64_in _ (by omega)
 have hvp : vb ≠ pb := Ne.symm hpv
 have hvr : vb ≠ rb := Ne.symm hrv
 clear hrb hvb hpc hpcv hp1 hp2 hpt hpt2 hby hqn hk8 hv
 go_enter Tryz.func112,Tryz.ntmps112
 go_wp2_with fail
 go_quiet (fail)
 clear hand
 go_wp2_with fail
 go_end0
 exact ⟨rfl,nq,by simp⟩

structure TS (w : World) (rb pb vb : Nat) (s : ByteArray) (a v : Nat) (wr : World) : Prop where
 kp : Keeps w wr (fun b => b = rb)
 rd : wr.heap[rb]? = some (.cells #[.string s,.int .i64 (a : Int)] 96 (0,0))
 pt : wr.cell? ⟨pb,0,none⟩ = some (.pointer (some ⟨rb,0,none⟩))
 va : wr.heap[vb]? = some (.cells #[.int .u64 (v : Int)] 97 (0,0))
theorem TS.step {w wr : World} {rb pb vb : Nat} {s : ByteArray} {a v : Nat} (h : TS w rb pb vb s a v wr) (hpv : pb ≠ vb) (hrv : rb ≠ vb) (hpr : pb ≠ rb) (hvw : w.heap.size ≤ vb) (q a' v' : Nat) :
  TS w rb pb vb s a' v' (((wr.drewN q).setCell ⟨vb,0,none⟩ (.int .u64 (v' : Int))).setCell ⟨rb,1,none⟩ (.int .i64 (a' : Int))) := by
 have e1 : (wr.drewN q).heap[rb]? = some (.cells #[.string s,.int .i64 (a : Int)] 96 (0,0)) := h.rd
 have e2 : (wr.drewN q).heap[vb]? = some (.cells #[.int .u64 (v : Int)] 97 (0,0)) := h.va
 have e3 : (wr.drewN q).cell? ⟨pb,0,none⟩ = some (.pointer (some ⟨rb,0,none⟩)) := h.pt
 have kp := h.kp.drewN q
 generalize wr.drewN q = wq at e1 e2 e3 kp ⊢
 refine ⟨(kp.setCell (.inr hvw) _).setCell (.inl rfl) _,?_,?_,?_⟩
 ·rw [heap_setCell_same _ rb 1 _ _ _ ((Below.heap_setCell wq ⟨vb,0,none⟩ _ rb hrv).trans e1)]
  rfl
 ·rw [World.cell?_of_block (w := wq) ((Below.heap_setCell _ ⟨rb,1,none⟩ _ pb hpr).trans (Below.heap_setCell wq ⟨vb,0,none⟩ _ pb hpv))]
  exact e3
 ·rw [Below.heap_setCell _ ⟨rb,1,none⟩ _ vb (Ne.symm hrv),heap_setCell_same wq vb 0 _ _ _ e2]
  rfl

set_option maxRecDepth 100000 in
set_option maxHeartbeats 3200000 in
theorem Take_any (x : Nat → Nat) (c : Nat) (w : World) (rb : Nat) (s : ByteArray) (a n : Nat) (hn : n ≤ 64) (ha : a + n ≤ 8 * s.size) (h : RdC x c w rb s a) :
  Calls Tryz.prog 83 #[.pointer (some ⟨rb,0,none⟩),.int .i64 (n : Int)] w fun e w' =>
   e = .returned (.tuple #[.int .u64 ((num (((unpack (nats s)).drop a).take n) : Nat) : Int),.int .i64 0]) /\ ∃ x', Fr x x' (fun e => e = c) w w' /\ RdC x' c w' rb s (a + n) := by
 have H := Lib.hid h
 obtain ⟨h0,hx,hb,hs⟩ := h
 have hrl := lt_of_block h0
 have W1 : Hid (RdC (paint x w.heap.size c) c (w.alloc (.cells #[.pointer (some ⟨rb,0,none⟩)] 23)) rb s a) := Lib.hid ⟨(Below.heap_alloc _ _ _ hrl).trans h0,by rw [paint_old hrl]; exact hx,hb,hs⟩
 clear h0
 obtain ⟨B,hB⟩ : ∃ B,(unpack (nats s)).drop a = B := ⟨_,rfl⟩
 have HB := Lib.hid hB
 rw [hB]
 clear hB
 have i1 : decide ((n : Int) < 0) = false := decide_eq_false (by omega)
 have i2 : decide ((64 : Int) < (n : Int)) = false := decide_eq_false (by omega)
 have i3 : decide (8 * s.size - a < n) = false := decide_eq_false (by omega)
 have i4 : decide (((8 * s.size - a : Nat) : Int) < (n : Int)) = false := decide_eq_false (by omega)
 go_enter Tryz.func83,Tryz.ntmps83
 go_wp2_with fail
 refine (left_any _ c _ rb s a W1.out).mono ?_
 rintro e w1 ⟨rfl,m1,rfl⟩
 obtain ⟨pb,hpb⟩ : ∃ p,w.heap.size = p := ⟨_,rfl⟩
 have T0 : Hid (TS w rb pb (pb + 1) s a 0 (((w.alloc (.cells #[.pointer (some ⟨rb,0,none⟩)] 23)).drewN m1).alloc (.cells #[.int .u64 0] 97))) := Lib.hid (by
  have w1 : ((w.alloc (.cells #[.pointer (some ⟨rb,0,none⟩)] 23)).drewN m1).heap.size = pb + 1 := by
   show (w.alloc _).heap.size = _
   rw [<- hpb]; simp
  have k1 : ((w.alloc (.cells #[.pointer (some ⟨rb,0,none⟩)] 23)).drewN m1).heap[rb]? = some (.cells #[.string s,.int .i64 (a : Int)] 96 (0,0)) := W1.out.1
  have k2 : ((w.alloc (.cells #[.pointer (some ⟨rb,0,none⟩)] 23)).drewN m1).heap[pb]? = some (.cells #[.pointer (some ⟨rb,0,none⟩)] 23 (0,0)) := by rw [<- hpb]; exact heap_alloc_new w _
  have kp : Keeps w ((w.alloc (.cells #[.pointer (some ⟨rb,0,none⟩)] 23)).drewN m1) (fun b => b = rb) := ((Keeps.refl w _).alloc _).drewN m1
  generalize (w.alloc (.cells #[.pointer (some ⟨rb,0,none⟩)] 23)).drewN m1 = wq at w1 k1 k2 kp ⊢
  refine ⟨kp.alloc _,(Below.heap_alloc _ _ _ (lt_of_block k1)).trans k1,?_,?_⟩
  ·rw [World.cell?_of_block (w := wq) (Below.heap_alloc _ _ _ (lt_of_block k2)),cell_of_row _ _ _ _ _ _ k2]
   rfl
  ·rw [<- w1]; exact heap_alloc_new wq _)
 go_upto_region 9 with fail
 try rw [hpb]
 have hvw : w.heap.size <= pb + 1 := by omega
 have hpr : pb ≠ rb := by omega
 have hrv : rb ≠ pb + 1 := by omega
 have hpv : pb ≠ pb + 1 := by omega
 obtain ⟨vb,hvb⟩ : ∃ v,pb + 1 = v := ⟨_,rfl⟩
 rw [hvb] at T0 hvw hrv hpv ⊢
 generalize World.alloc _ _ = W2 at T0 ⊢
 clear hvb hpb i1 i2 i3 i4
 go_loopw [1] (fun i wr => ∃ m : Nat,i = .int .i64 m /\ m <= n /\ TS w rb pb vb s (a + (n - m)) (num (B.take (n - m))) wr) (fun i _ => (intOf i).toNat)
 case atStart => exact ⟨n,rfl,Nat.le_refl _,by rw [Nat.sub_self]; exact T0.out⟩
 case round =>
  obtain ⟨m,rfl,hm,hT⟩ := hrel
  have TT := Lib.hid hT
  by_cases h0 : 0 < m
  ·obtain ⟨a2,ha2⟩ : ∃ k,a + (n - m) = k := ⟨_,rfl⟩
   obtain ⟨v2,hv2⟩ : ∃ k,num (B.take (n - m)) = k := ⟨_,rfl⟩
   rw [ha2,hv2] at TT hT
   have c1 : wr.cell? ⟨rb,1,none⟩ = some (.int .i64 (a2 : Int)) := by rw [cell_of_row wr rb _ _ _ _ hT.rd]; rfl
   have cp := hT.pt
   have hab : a2 + m <= 8 * s.size := by omega
   obtain ⟨r,hr⟩ : ∃ r,a2 % 8 = r := ⟨_,rfl⟩
   have ha7 := and7 a2 (by omega)
   rw [hr] at ha7
   have hr8 : r < 8 := by omega
   obtain ⟨t,ht⟩ : ∃ t : Nat,t = min m (8 - r) := ⟨_,rfl⟩
   have ht0 : 0 < t := by omega
   have htm : t <= m := by omega
   have htr : t <= 8 - r := by omega
   have hmin : (if 8 - (r : Int) < (m : Int) then 8 - (r : Int) else (m : Int)) = (t : Int) := by split <;> omega
   have NX : Hid (num (B.take (n - (m - t))) = v2 * 2 ^ t + num (((unpack (nats s)).drop a2).take t)) := Lib.hid (by
    have hlen : (((unpack (nats s)).drop a2).take t).length = t := by
     rw [List.length_take,List.length_drop,unpack_length,nats_length]
     omega
    have e : (B.drop (n - m)).take t = ((unpack (nats s)).drop a2).take t := by rw [<- HB.out,List.drop_drop,ha2]
    rw [show n - (m - t) = (n - m) + t by omega,List.take_add,num_append,hv2,e,hlen])
   have LT : Hid (v2 * 2 ^ t + num (((unpack (nats s)).drop a2).take t) < 18446744073709551616) := Lib.hid (by
    rw [<- NX.out]
    refine Nat.lt_of_lt_of_le (num_lt _) ?_
    calc 2 ^ (B.take (n - (m - t))).length <= 2 ^ 64 := Nat.pow_le_pow_right (by decide) (by rw [List.length_take]; omega)
     _ = 18446744073709551616 := by decide)
   have SH := Lib.hid (shift_any s a2 v2 t rb pb vb wr (by rw [hr]; exact htr) (by omega) hs hT.pt hT.rd hT.va hpv hrv LT.out)
   have HA2 := Lib.hid ha2
   clear hT ha2 hv2 hr ht
   go_wp2_with fail
   refine SH.out.mono ?_
   rintro e w3 ⟨rfl,q,rfl⟩
   have T3 : Hid (TS w rb pb vb s (a + (n - (m - t))) (num (B.take (n - (m - t)))) _) := Lib.hid (by
    have := TT.out.step hpv hrv hpr hvw q (a2 + t) (v2 * 2 ^ t + num (((unpack (nats s)).drop a2).take t))
    rw [<- NX.out,show a2 + t = a + (n - (m - t)) by have := HA2.out; omega] at this
    exact this)
   rw [<- NX.out,show a2 + t = a + (n - (m - t)) by have := HA2.out; omega]
   generalize World.setCell _ _ _ = W3 at T3 ⊢
   clear SH TT cp c1 ha7 hmin
   have hw1 : IntKind.i64.wrap ((m : Int) - (t : Int)) = ((m - t : Nat) : Int) := by rw [IntWalk.i64_in _ (by omega)]; omega
   go_wp2_with fail
   go_roundw
   case rel =>
    exact ⟨m - t,by go_num,by omega,T3.out⟩
   case measure => simp [intOf]; omega
  ·have hm0 : m = 0 := by omega
   subst hm0
   rw [Nat.sub_zero] at TT hT
   have cv : wr.cell? ⟨vb,0,none⟩ = some (.int .u64 ((num (B.take n) : Nat) : Int)) := by rw [cell_of_row wr vb _ _ _ _ hT.va]; rfl
   have FIN : Hid (∃ x', Fr x x' (fun e => e = c) w wr /\ RdC x' c wr rb s (a + n)) := Lib.hid ⟨_,TT.out.kp.fr (c := c) rfl (fun b _ hS => by rw [hS]; exact hx),TT.out.rd,by rw [paint_old hrl]; exact hx,by omega,hs⟩
   clear hT
   go_wp2_with fail
   go_ret2
   exact ⟨rfl,FIN.out⟩
theorem ropen_any (x : Nat → Nat) (c : Nat) (s : ByteArray) (hs : s.size ≤ 1152921504606846975) (w : World) :
  Calls Tryz.prog 7 #[.string s] w fun e w' => ∃ rb x', e = .returned (.pointer (some ⟨rb,0,none⟩)) /\ Fr x x' (fun e => e = c) w w' /\ RdC x' c w' rb s 0 /\ w.heap.size <= rb /\ Below w.heap.size w w' := by
 go_enter Tryz.func7,Tryz.ntmps7
 go_wp2_with fail
 go_ret
 have hb : Below w.heap.size w (w.alloc (.cells #[.string s,.int .i64 0] 96)) := (Below.refl _ _).alloc (Nat.le_refl _) _
 exact ⟨w.heap.size,paint x w.heap.size c,rfl,Fr.of_below hb rfl,⟨heap_alloc_new w _,paint_new (Nat.le_refl _),Nat.zero_le _,hs⟩,Nat.le_refl _,hb⟩

set_option maxRecDepth 100000 in
theorem Seek_any (x : Nat → Nat) (c : Nat) (s : ByteArray) (a at_ rb : Nat) (w : World) (h : RdC x c w rb s a) (hat : at_ ≤ 8 * s.size) :
  Calls Tryz.prog 9 #[.pointer (some ⟨rb,0,none⟩),.int .i64 (at_ : Int)] w fun e w' => e = .returned (.int .i64 0) /\ Fr x x (fun e => e = c) w w' /\ RdC x c w' rb s at_ := by
 obtain ⟨h0,hx,ha,hs⟩ := h
 have H0 := Lib.hid h0
 have c0 : w.cell? ⟨rb,0,none⟩ = some (.string s) := by rw [cell_of_row w rb _ _ _ _ h0]; rfl
 have c1 : w.cell? ⟨rb,1,none⟩ = some (.int .i64 (a : Int)) := by rw [cell_of_row w rb _ _ _ _ h0]; rfl
 have cf : ∀ j,w.frozen? ⟨rb,j,none⟩ = false := fun j => frozen_of_row w rb j _ _ h0
 have hw1 : IntKind.i64.wrap (8 * (s.size : Int)) = 8 * (s.size : Int) := IntWalk.i64_in _ (by omega)
 have i1 : ¬ (at_ : Int) < 0 := by omega
 have i2 : ¬ 8 * (s.size : Int) < (at_ : Int) := by omega
 clear h0
 go_enter Tryz.func9,Tryz.ntmps9
 go_wp2_with fail
 go_ret
 have hrow := heap_setCell_same w rb 1 _ _ (.int .i64 (at_ : Int)) H0.out
 exact ⟨rfl,Fr.same rfl rfl rfl (by simp) (fun d _ hd => Below.heap_setCell _ _ _ _ (fun e => hd (by rw [e]; exact hx))),by rw [hrow]; rfl,hx,hat,hs⟩
end Go.Proofs.YtflnpcgnenhogaaGreatDoor.bit
