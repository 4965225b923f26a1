/- Own lemmas, laid together. -/
import Derived.Test.YtflnpcgnenhogaaGreatDoorBd38
import Derived.Test.YtflnpcgnenhogaaGreatDoorBd34
import Derived.Test.YtflnpcgnenhogaaGreatDoorBd37
import Derived.Test.YtflnpcgnenhogaaGreatDoorBd36
import Derived.Test.YtflnpcgnenhogaaGreatDoorBd30
import Derived.Test.YtflnpcgnenhogaaGreatDoorBd20
import Derived.Test.YtflnpcgnenhogaaGreatDoorBd35
import Derived.Test.YtflnpcgnenhogaaGreatDoorBd33
namespace Go.Proofs.YtflnpcgnenhogaaGreatDoor.ls
open Go.RowKit Go.Proofs.YtflnpcgnenhogaaGreatDoor.own Go.Proofs.YtflnpcgnenhogaaGreatDoor.bit

def headN (deg ref win : Nat) : Nat := (cb .gam deg).length + (if 0 < deg ∧ 0 < win then ref + 1 else 0)
set_option maxRecDepth 100000 in
set_option maxHeartbeats 3200000 in
theorem dhead_bits (deg ref win itv zet : Nat) (hd : deg ≤ 65536) (hr : ref ≤ 16) (w : World) : Calls Tryz.prog 56 #[.agg #[.int .i64 (deg : Int), .int .i64 (ref : Int)], .agg #[.int .i64 (win : Int), .int .i64 (itv : Int), .int .i64 (zet : Int)]] w fun e w' => e = .returned (.int .i64 (headN deg ref win : Int)) ∧ Below w.heap.size w w' := by
 have GA := Lib.hid (fun W => gamma_any deg (by omega) W)
 obtain ⟨N,hN⟩ : ∃ N,(cb .gam deg).length = N := ⟨_,rfl⟩
 have hN9 : N <= 1000000 := by
  rw [<- hN,cb_gam,List.length_append,un_length,ofN_length]
  have := Nat.log2_le_self (deg + 1)
  omega
 have HH : Hid (headN deg ref win = N + (if 0 < deg /\ 0 < win then ref + 1 else 0)) := Lib.hid (by unfold headN; rw [hN])
 have HN := Lib.hid hN
 clear hN
 go_enter Tryz.func56,Tryz.ntmps56
 go_upto_region 2 with fail
 have rA := heap_alloc_new w (.cells #[.int .i64 (deg : Int),.int .i64 (ref : Int)] 33)
 have kA : Below w.heap.size w (w.alloc (.cells #[.int .i64 (deg : Int),.int .i64 (ref : Int)] 33)) := (Below.refl _ _).alloc (Nat.le_refl _) _
 have hsz : (w.alloc (.cells #[.int .i64 (deg : Int),.int .i64 (ref : Int)] 33)).heap.size = w.heap.size + 1 := by simp
 generalize World.alloc w _ = W1 at rA kA hsz ⊢
 have rB := heap_alloc_new W1 (.cells #[.int .i64 (win : Int),.int .i64 (itv : Int),.int .i64 (zet : Int)] 36)
 have kB : Below W1.heap.size W1 (W1.alloc (.cells #[.int .i64 (win : Int),.int .i64 (itv : Int),.int .i64 (zet : Int)] 36)) := (Below.refl _ _).alloc (Nat.le_refl _) _
 rw [hsz] at rB
 have rA2 := (kB.block _ (lt_of_block rA)).trans rA
 have k2 := kA.trans (kB.mono kA.size)
 generalize World.alloc W1 _ = W2 at rB kB rA2 k2 ⊢
 with_reducible refine (GA.out _).mono ?_
 rintro e W3 ⟨v,rfl,own,k3⟩
 have a3 := (k3.block _ (lt_of_block rA2)).trans rA2
 have b3 := (k3.block _ (lt_of_block rB)).trans rB
 have K3 := Lib.hid (k2.trans (k3.mono k2.size))
 have c0 : W3.cell? ⟨w.heap.size,0,none⟩ = some (.int .i64 (deg : Int)) := by rw [cell_of_row _ _ _ _ _ _ a3]; rfl
 have c1 : W3.cell? ⟨w.heap.size,1,none⟩ = some (.int .i64 (ref : Int)) := by rw [cell_of_row _ _ _ _ _ _ a3]; rfl
 have c2 : W3.cell? ⟨w.heap.size + 1,0,none⟩ = some (.int .i64 (win : Int)) := by rw [cell_of_row _ _ _ _ _ _ b3]; rfl
 rw [HN.out] at own
 obtain ⟨sv,cv,e3⟩ := own_shape own
 subst e3
 have w1 : IntKind.i64.wrap ((N : Int) + (ref : Int)) = (N : Int) + (ref : Int) := IntWalk.i64_in _ (by omega)
 have w2 : IntKind.i64.wrap ((N : Int) + (ref : Int) + 1) = ((N + (ref + 1) : Nat) : Int) := by rw [IntWalk.i64_in _ (by omega)]; omega
 clear rA kA hsz rB kB rA2 k2 own k3 a3 b3 GA
 by_cases h1 : 0 < deg
 ·have i1 : decide ((0 : Int) < (deg : Int)) = true := decide_eq_true (by omega)
  by_cases h2 : 0 < win
  ·have i2 : decide ((0 : Int) < (win : Int)) = true := decide_eq_true (by omega)
   go_wp2_with fail
   go_ret
   exact ⟨by rw [HH.out,if_pos ⟨h1,h2⟩]; rfl,K3.out⟩
  ·have i2 : decide ((0 : Int) < (win : Int)) = false := decide_eq_false (by omega)
   go_wp2_with fail
   go_ret
   exact ⟨by rw [HH.out,if_neg (fun h => h2 h.2)]; rfl,K3.out⟩
 ·have i1 : decide ((0 : Int) < (deg : Int)) = false := decide_eq_false (by omega)
  go_wp2_with fail
  go_ret
  exact ⟨by rw [HH.out,if_neg (fun h => h1 h.1)]; rfl,K3.out⟩
theorem blv_own {w : World} {base : Nat} {v : Value} {l : Bits} (h : w.ownsRow base 4 1 v l.length (bls l)) : ∃ a cap, v = .slice a l.length cap ∧ l.length ≤ cap ∧ BlV w a l := by
 rcases h.2 with ⟨hv,h0⟩ | ⟨g,cap,cur,hv,hbb,hg,hn,hc,hcs,_⟩
 ·exact ⟨none,0,by rw [hv,h0],by omega,fun k hk => by omega⟩
 ·subst hv
  refine ⟨_,_,rfl,hn,fun k hk => ⟨g,0,rfl,lt_of_block hg,?_⟩⟩
  rw [Nat.zero_add,h.cellAt k (by omega)]
  simp [bls,hk]
theorem hdN_len {l : List Nat} (hl : l ≠ []) (r : Nat) (p : Pr) : (bitsOf (hdN l r p)).length = headN l.length r p.win := by
 have h0 : 0 < l.length := List.length_pos_iff.2 hl
 unfold hdN headN
 rw [bitsOf_cons,List.length_append,if_neg hl]
 by_cases hw : 0 < p.win
 ·rw [if_pos hw,if_pos ⟨h0,hw⟩,bitsOf_cons,bitsOf_nil,List.append_nil]
  rw [show cb .una r = un r from rfl,un_length]
 ·rw [if_neg hw,if_neg (fun h => hw h.2)]
  rfl
theorem lay_eq (x : Nat) (l ref : List Nat) (r : Nat) (p : Pr) : lay x l ref r p = bitsOf (hdN l r p) ++ bitsOf (tlN x l ref r p) := by
 unfold lay nums
 rw [bitsOf_append]
section
variable {B : Bits} {x n deg : Nat} {ref : List Nat} {r : Nat} {p : Pr} {a a' : Nat} {l : List Nat}
theorem dec_out1 (h : dOut (pars B x deg ref r p a) = none) : dec B x n deg ref r p a = none := by
 unfold dec
 cases hp : pars B x deg ref r p a with
 | none => rfl
 | some t =>
  rw [hp] at h
  have h2 : (if (srtN (t.1 ++ t.2.1 ++ t.2.2.1)).Pairwise (· < ·) then some (srtN (t.1 ++ t.2.1 ++ t.2.2.1),t.2.2.2) else none) = none := h
  split at h2
  ·cases h2
  ·next hn => exact if_neg (fun h => hn h.1)
theorem dec_out (h : dOut (pars B x deg ref r p a) = some (l, a')) (hl : l.length = deg) :
  (((∀ v ∈ l,v < n) /\ bitsOf (tlN x l ref r p) = (B.drop a).take (a' - a)) -> dec B x n deg ref r p a = some (l,a')) /\ (¬ ((∀ v ∈ l,v < n) /\ bitsOf (tlN x l ref r p) = (B.drop a).take (a' - a)) -> dec B x n deg ref r p a = none) := by
 unfold dec
 cases hp : pars B x deg ref r p a with
 | none => rw [hp] at h; cases h
 | some t =>
  rw [hp] at h
  have h2 : (if (srtN (t.1 ++ t.2.1 ++ t.2.2.1)).Pairwise (· < ·) then some (srtN (t.1 ++ t.2.1 ++ t.2.2.1),t.2.2.2) else none) = some (l,a') := h
  split at h2
  ·next hpw =>
   injection h2 with h2
   injection h2 with e1 e2
   have pm := srtN_perm (t.1 ++ t.2.1 ++ t.2.2.1)
   rw [e1] at pm
   rw [Option.bind_some,e1,e2]
   rw [e1] at hpw
   exact ⟨fun hc => if_pos ⟨hpw,by rw [<- pm.length_eq]; exact hl,fun v hv => hc.1 v (pm.mem_iff.2 hv),hc.2⟩,fun hc => if_neg (fun k => hc ⟨fun v hv => k.2.2.1 v (pm.mem_iff.1 hv),k.2.2.2⟩)⟩
  ·cases h2
theorem dec_deg0 (hp : p.ok) (ha : a ≤ B.length) (hr : 0 < r) : dec B x n 0 ref r p a = none := by
 unfold dec
 cases hp2 : pars B x 0 ref r p a with
 | none => rfl
 | some t =>
  obtain ⟨c,l,z,a'⟩ := t
  obtain ⟨k1,k2,k3⟩ := pars_le hp hp2 ha
  have k4 := k3 hr
  rw [Option.bind_some]
  refine if_neg (fun h => ?_)
  obtain ⟨h1,h2,h3,h4⟩ := h
  have e : c ++ l ++ z = [] := List.eq_nil_of_length_eq_zero h2
  rw [e] at h4
  have e2 : bitsOf (tlN x (srtN []) ref r p) = [] := by
   have : srtN [] = [] := List.eq_nil_of_length_eq_zero (srtN_perm []).length_eq
   rw [this]
   rfl
  rw [e2] at h4
  have h5 := congrArg List.length h4
  rw [List.length_take,List.length_drop,List.length_nil] at h5
  dsimp only at h5
  omega
end
theorem dOut_pw {t : Option (List Nat × List Nat × List Nat × Nat)} {l : List Nat} {a' : Nat} (h : dOut t = some (l, a')) : l.Pairwise (· < ·) := by
 cases t with
 | none => cases h
 | some t =>
  have h2 : (if (srtN (t.1 ++ t.2.1 ++ t.2.2.1)).Pairwise (· < ·) then some (srtN (t.1 ++ t.2.1 ++ t.2.2.1),t.2.2.2) else none) = some (l,a') := h
  split at h2
  ·next hpw =>
   injection h2 with h2
   injection h2 with e1 e2
   rw [<- e1]
   exact hpw
  ·cases h2
theorem bits_pos {L : List (Cd × Nat)} (h : L ≠ []) : 1 ≤ (bitsOf L).length := by
 cases L with
 | nil => exact absurd rfl h
 | cons q r =>
  rw [show bitsOf (q :: r) = cb q.1 q.2 ++ bitsOf r from rfl,List.length_append]
  have := cb_pos q.1 q.2
  omega
theorem tl_pos {x : Nat} {l ref : List Nat} {r : Nat} {p : Pr} (hl : l ≠ []) (hr : 0 < r ∨ ref = []) : 1 ≤ (bitsOf (tlN x l ref r p)).length := by
 refine bits_pos ?_
 unfold tlN
 rw [if_neg hl]
 by_cases h0 : 0 < r
 ·unfold runN
  rw [if_pos h0]
  simp
 ·obtain rfl := hr.resolve_left h0
  have e : leftOf l [] = l := by
   unfold leftOf isIn
   rw [List.filter_eq_self]
   intro v _
   simp
  rw [e]
  unfold restN
  rw [if_neg hl]
  by_cases hi : 0 < p.itv
  ·rw [if_pos hi]
   simp
  ·rw [if_neg hi,show p.itv = 0 by omega,rws_zero]
   cases l with
   | nil => exact absurd rfl hl
   | cons v r => simp [znm]
def DDecP (O : Option (List Nat × Nat)) (w : World) (wr : Option (Nat × Bits)) (rd : Option (Nat × ByteArray × Nat)) (rb : Nat) (aB : Option Addr) (dB : Nat) (B : Bits) (a : Nat) (K : List (Nat × Obj)) (e : Ending) (w' : World) : Prop :=
 match O with
 | some q => ∃ v,e = .returned (.tuple #[v,.int .i64 0]) /\ DRR w wr rd rb aB dB B q.2 [⟨77,v,u32V q.1⟩] K w'
 | none => e = .returned (.tuple #[.slice none 0 0,.int .i64 4]) /\ DRR w wr rd rb aB dB B a [] K w'
theorem DRR.bits {w W : World} {wr : Option (Nat × Bits)} {rd : Option (Nat × ByteArray × Nat)} {rb : Nat} {aB : Option Addr} {dB : Nat} {B : Bits} {p : Nat} {rs : List Rw} {K : List (Nat × Obj)} (h : DRR w wr rd rb aB dB B p rs K W) : BlV W aB B := h.2.2.1 W (fun _ hq => h.has hq)
theorem DRR.lv {w W : World} {wr : Option (Nat × Bits)} {rd : Option (Nat × ByteArray × Nat)} {rb : Nat} {aB : Option Addr} {dB : Nat} {B : Bits} {p : Nat} {rs : List Rw} {K : List (Nat × Obj)} {v : Value} {l : List Nat} (h : DRR w wr rd rb aB dB B p (⟨77, v, u32V l⟩ :: rs) K W) (hl : l.length ≤ 1000000) (hb : ∀ u ∈ l, u < 65536) :
  ∃ a cap,v = .slice a l.length cap /\ l.length <= cap /\ LV W a l := by
 have h1 := h.1.own
 unfold Rw.owned at h1
 dsimp only at h1
 rw [u32V_length] at h1
 exact lv_own (by omega) (fun u hu => Nat.lt_trans (hb u hu) (by decide)) h1
theorem DRR.nil {w W : World} {wr : Option (Nat × Bits)} {rd : Option (Nat × ByteArray × Nat)} {rb : Nat} {aB : Option Addr} {dB : Nat} {B : Bits} {p : Nat} {rs : List Rw} {K : List (Nat × Obj)} (h : DRR w wr rd rb aB dB B p rs K W) : DRR w wr rd rb aB dB B p (⟨77, .slice none 0 0, u32V []⟩ :: rs) K W := ⟨h.1.lift, h.2⟩
theorem DRR.bare {w W : World} {wr : Option (Nat × Bits)} {rd : Option (Nat × ByteArray × Nat)} {rb : Nat} {aB : Option Addr} {dB : Nat} {B : Bits} {p : Nat} {rs : List Rw} {K : List (Nat × Obj)} (h : DRR w wr rd rb aB dB B p rs K W) : DRR w wr rd rb aB dB B p [] K W := ⟨h.1.fs, h.2⟩
set_option maxRecDepth 100000 in
set_option maxHeartbeats 6400000 in
theorem ddec_any {w W : World} {wr : Option (Nat × Bits)} {rd : Option (Nat × ByteArray × Nat)} {rb : Nat} {aB : Option Addr} {dB : Nat} {B : Bits} {p : Nat} {K : List (Nat × Obj)} (h : DRd w wr rd rb aB dB B p K W)
  (x n deg r : Nat) (pr : Pr) (hx : x < 65536) (hn : n <= 65536) (hd : deg <= 65536) (hr : r <= pr.win) (hp : pr.ok) (ar : Option Addr) (ref : List Nat) (cap : Nat) (hcap : ref.length <= cap) (hris : Ris ref) (hr0 : 0 < r \/ ref = []) (hA : Seen w K ar ref) :
  Calls Tryz.prog 17 #[.pointer (some ⟨rb,0,none⟩),.int .i64 (x : Int),.int .i64 (n : Int),.agg #[.int .i64 (deg : Int),.int .i64 (r : Int)],.slice ar ref.length cap,parV (pr.win : Int) (pr.itv : Int) (pr.zet : Int)] W (DDecP (dec B x n deg ref r pr p) w wr rd rb aB dB B p K) := by
 have HB6 := Lib.hid h.2.2.1
 have hlen := hris.len
 have hpB := h.2.2.2.1
 have hB9 := h.2.2.2.2.2.1
 have HHB := Lib.hid h.2.2.2.2
 have hp' := hp
 obtain ⟨win,itv,zet⟩ := pr
 obtain ⟨hp1,hp2,hp3⟩ := hp'
 dsimp only at hp1 hp2 hp3 hr ⊢
 have CK : Hid (∀ W,Calls Tryz.prog 47 #[.agg #[.int .i64 (win : Int),.int .i64 (itv : Int),.int .i64 (zet : Int)]] W fun e w' => e = .returned (.int .i64 0) /\ Below W.heap.size W w') := Lib.hid (fun W => by
  have h := dcheck_any (win : Int) (itv : Int) (zet : Int) W
  rw [if_pos (show ParOk (win : Int) (itv : Int) (zet : Int) from ⟨by omega,by omega,by omega,by omega,by omega⟩)] at h
  exact h)
 have SU : Hid (∀ W a cap (l : List Nat),LV W a l -> Ris l -> Calls Tryz.prog 53 #[.slice a l.length cap] W fun e w' => e = .returned (.bool true) /\ Below W.heap.size W w') := Lib.hid (fun W a cap l h hr => (dsucc_any W a l cap h).mono (by
  rintro e w' ⟨b,rfl,hb,k⟩
  rw [hb.2 hr]
  exact ⟨rfl,k⟩))
 have D0 := Lib.hid (fun W' K' (hk : ∀ q ∈ K,q ∈ K') (h : DRd w wr rd rb aB dB B p K' W') => ddec0_any h x deg r ⟨win,itv,zet⟩ hx hd (by omega) hp ar ref cap hcap hris (hA.more hk))
 have LY := Lib.hid (fun W' a l capl (hc : l.length <= capl) (hl : Ris l) (h1 : LV W' a l) (h2 : LV W' ar ref) => dlaid_any ⟨win,itv,zet⟩ x W' a l capl ar ref cap r hc hcap ⟨hp,hx,hl,hris,hr,hr0⟩ h1 h2)
 have LL := Lib.hid (fun l (hl : Ris l) => lay_len (x := x) (succ := l) (ref := ref) (r := r) (p := ⟨win,itv,zet⟩) ⟨hp,hx,hl,hris,hr,hr0⟩)
 have HD := Lib.hid (fun W => dhead_bits deg r win itv zet hd (by omega) W)
 have HS := Lib.hid hA
 have HR := Lib.hid hris
 have h9 := (h.add #[.int .i64 (deg : Int),.int .i64 (r : Int)] 33).add #[.int .i64 (win : Int),.int .i64 (itv : Int),.int .i64 (zet : Int)] 36
 rw [show (W.alloc (.cells #[.int .i64 (deg : Int),.int .i64 (r : Int)] 33)).heap.size = W.heap.size + 1 by simp] at h9
 obtain ⟨hb,hhb⟩ : ∃ z,W.heap.size = z := ⟨_,rfl⟩
 rw [hhb] at h9
 obtain ⟨K2,hK2⟩ : ∃ K', (hb + 1,Obj.cells #[.int .i64 (win : Int),.int .i64 (itv : Int),.int .i64 (zet : Int)] 36 (0,0)) :: (hb,Obj.cells #[.int .i64 (deg : Int),.int .i64 (r : Int)] 33 (0,0)) :: K = K' := ⟨_,rfl⟩
 rw [hK2] at h9
 have H0 := Lib.hid h9
 have HK : Hid (∀ q ∈ K,q ∈ K2) := Lib.hid (fun q hq => by rw [<- hK2]; exact List.mem_cons_of_mem _ (List.mem_cons_of_mem _ hq))
 have CC : Hid (∀ W' p' rs,DRR w wr rd rb aB dB B p' rs K2 W' -> W'.cell? ⟨hb,0,none⟩ = some (.int .i64 (deg : Int)) /\ W'.cell? ⟨hb,1,none⟩ = some (.int .i64 (r : Int)) /\ W'.cell? ⟨hb + 1,0,none⟩ = some (.int .i64 (win : Int)) /\ W'.cell? ⟨hb + 1,1,none⟩ = some (.int .i64 (itv : Int)) /\ W'.cell? ⟨hb + 1,2,none⟩ = some (.int .i64 (zet : Int)) /\ W'.cell? ⟨rb,0,none⟩ = some (.slice aB B.length dB) /\ W'.cell? ⟨rb,1,none⟩ = some (.int .i64 (p' : Int)) /\ W'.frozen? ⟨rb,1,none⟩ = false) := Lib.hid (fun W' p' rs h => by
  have r : W'.heap[hb]? = some (.cells #[.int .i64 (deg : Int),.int .i64 (r : Int)] 33 (0,0)) := h.has (q := (hb,_)) (by rw [<- hK2]; exact List.mem_cons_of_mem _ (List.mem_cons_self ..))
  have r2 : W'.heap[hb + 1]? = some (.cells #[.int .i64 (win : Int),.int .i64 (itv : Int),.int .i64 (zet : Int)] 36 (0,0)) := h.has (q := (hb + 1,_)) (by rw [<- hK2]; exact List.mem_cons_self ..)
  exact ⟨by rw [cell_of_row _ _ _ _ _ _ r]; rfl,by rw [cell_of_row _ _ _ _ _ _ r]; rfl,by rw [cell_of_row _ _ _ _ _ _ r2]; rfl,by rw [cell_of_row _ _ _ _ _ _ r2]; rfl,by rw [cell_of_row _ _ _ _ _ _ r2]; rfl,h.cells⟩)
 have OUT : Hid (∀ W' p' rs,DRR w wr rd rb aB dB B p' rs K2 W' -> DRR w wr rd rb aB dB B p' rs K W') := Lib.hid (fun W' p' rs h => h.less HK.out HB6.out)
 obtain ⟨D,hD⟩ : ∃ Z,dec B x n deg ref r ⟨win,itv,zet⟩ p = Z := ⟨_,rfl⟩
 have E1 := Lib.hid (fun (h1 : dOut (pars B x deg ref r ⟨win,itv,zet⟩ p) = none) => hD.symm.trans (dec_out1 (n := n) h1))
 have E2 := Lib.hid (fun l a' (h1 : dOut (pars B x deg ref r ⟨win,itv,zet⟩ p) = some (l,a')) (h2 : l.length = deg) => (dec_out (n := n) h1 h2))
 rw [hD] at E2
 have E3 : Hid (deg = 0 -> 0 < r -> D = none) := Lib.hid (fun h1 h2 => by
  rw [<- hD,h1]
  exact dec_deg0 hp hpB h2)
 have E4 : Hid (deg = 0 -> r = 0 -> D = some ([],p)) := Lib.hid (fun h1 h2 => by
  rw [<- hD,h1,h2]
  exact dec_zero B x n ref ⟨win,itv,zet⟩ p)
 have NOX : Hid (D = none -> ∀ W' rs,DRR w wr rd rb aB dB B p rs K2 W' -> DDecP D w wr rd rb aB dB B p K (.returned (.tuple #[.slice none 0 0,.int .i64 4])) W') := Lib.hid (fun hz W' rs h => by
  rw [hz]
  exact ⟨rfl,OUT.out _ _ _ h.bare⟩)
 have hrl : r = 0 -> ref.length = 0 := fun h => by rcases hr0 with h1 | h1; omega; rw [h1]; rfl
 have HRL := Lib.hid hrl
 have Q0 : Hid (∀ W', Below w.heap.size w W' -> (∀ q ∈ K2,W'.heap[q.1]? = some q.2) -> LV W' ar ref) := Lib.hid (fun W' k hq => HS.out W' k (fun q hqk => hq q (HK.out q hqk)))
 rw [hD]
 unfold parV at D0 LY ⊢
 obtain ⟨O,hO⟩ : ∃ O,dOut (pars B x deg ref r ⟨win,itv,zet⟩ p) = O := ⟨_,rfl⟩
 rw [hO] at D0 E1 E2
 have HOE := Lib.hid hO
 have HTP := Lib.hid (fun l (h0 : l ≠ []) => tl_pos (x := x) (p := ⟨win,itv,zet⟩) h0 hr0)
 have HEQ := Lib.hid (fun l (h0 : l ≠ []) => And.intro (lay_eq x l ref r ⟨win,itv,zet⟩) (hdN_len h0 r ⟨win,itv,zet⟩))
 clear h h9 hD hK2 hA hris hp hr0 hrl hO
 obtain ⟨n0,hn0⟩ : ∃ n,ref.length = n := ⟨_,rfl⟩
 have HN0 := Lib.hid hn0
 rw [hn0] at hlen hcap D0 LY HRL ⊢
 have SR1 : Hid (∀ W', Below w.heap.size w W' -> (∀ q ∈ K2,W'.heap[q.1]? = some q.2) -> Calls Tryz.prog 53 #[.slice ar n0 cap] W' fun e w' => e = .returned (.bool true) /\ Below W'.heap.size W' w') := Lib.hid (fun W' k hq => by
  have h := SU.out W' ar cap ref (Q0.out W' k hq) HR.out
  rw [hn0] at h
  exact h)
 clear hn0
 go_enter Tryz.func17,Tryz.ntmps17
 go_upto_region 1 with fail
 generalize World.alloc (World.alloc W _) _ = W0 at H0 ⊢
 clear hhb
 go_cut [74] from 19 to 75 (fun v74 wc => v74 = .bool false /\ DRd w wr rd rb aB dB B p K2 wc)
 case first =>
  obtain ⟨c0,c1,c2,c3,c4,c5,c6,c7⟩ := CC.out _ _ _ H0.out.rows
  go_wp2_with fail
  with_reducible refine (CK.out _).mono ?_
  rintro e w1 ⟨rfl,k1⟩
  have H1 := Lib.hid (H0.out.next k1)
  clear c0 c1 c2 c3 c4 c5 c6 c7 k1 H0
  obtain ⟨c0,c1,c2,c3,c4,c5,c6,c7⟩ := CC.out _ _ _ H1.out.rows
  have f1 : decide ((x : Int) < 0) = false := decide_eq_false (by omega)
  have f2 : decide ((65536 : Int) <= (x : Int)) = false := decide_eq_false (by omega)
  have f3 : decide (65536 <= x) = false := decide_eq_false (by omega)
  have f4 : decide ((n : Int) < 0) = false := decide_eq_false (by omega)
  have f5 : decide ((65536 : Int) < (n : Int)) = false := decide_eq_false (by omega)
  have f6 : decide (65536 < n) = false := decide_eq_false (by omega)
  have f7 : decide ((deg : Int) < 0) = false := decide_eq_false (by omega)
  have f8 : decide ((65536 : Int) < (deg : Int)) = false := decide_eq_false (by omega)
  have f9 : decide (65536 < deg) = false := decide_eq_false (by omega)
  have fa : decide ((r : Int) < 0) = false := decide_eq_false (by omega)
  have S1 := Lib.hid (SR1.out w1 H1.out.1.below (fun q hq => H1.out.1.row (b := q.1) (o := q.2) (List.mem_cons_of_mem _ hq)))
  go_wp2_with fail
  with_reducible refine S1.out.mono ?_
  rintro e w2 ⟨rfl,k2⟩
  have H2 := Lib.hid (H1.out.next k2)
  clear c0 c1 c2 c3 c4 c5 c6 c7 k2 H1 S1 SR1
  obtain ⟨c0,c1,c2,c3,c4,c5,c6,c7⟩ := CC.out _ _ _ H2.out.rows
  have g1 : decide ((win : Int) < (r : Int)) = false := decide_eq_false (by omega)
  have g2 : decide (win < r) = false := decide_eq_false (by omega)
  by_cases hrz : r = 0
  ·obtain rfl : n0 = 0 := HRL.out hrz
   subst hrz
   go_wp2_with fail
   go_meet
   case rel => exact ⟨rfl,H2.out⟩
  ·have i1 : ((r : Int) == 0) = false := beq_eq_false_iff_ne.2 (by omega)
   go_wp2_with fail
   go_meet
   case rel => exact ⟨rfl,H2.out⟩
 case rest =>
  rename World => w3
  obtain ⟨rfl,h3⟩ := hcut
  have H3 := Lib.hid h3
  obtain ⟨c0,c1,c2,c3,c4,c5,c6,c7⟩ := CC.out _ _ _ h3.rows
  clear h3 H0 SR1 CK
  by_cases hdz : deg = 0
  ·have i1 : ((deg : Int) == 0) = true := by rw [hdz]; rfl
   by_cases hrz : r = 0
   ·have i2 : decide ((0 : Int) < (r : Int)) = false := decide_eq_false (by omega)
    have i3 : decide (0 < r) = false := decide_eq_false (by omega)
    have FN : Hid (DDecP D w wr rd rb aB dB B p K (.returned (.tuple #[.slice none 0 0,.int .i64 0])) w3) := Lib.hid (by
     rw [E4.out hdz hrz]
     exact ⟨_,rfl,OUT.out _ _ _ H3.out.rows.nil⟩)
    clear hdz hrz
    go_wp2_with fail
    go_ret2
    exact FN.out
   ·have i2 : decide ((0 : Int) < (r : Int)) = true := decide_eq_true (by omega)
    have i3 : decide (0 < r) = true := decide_eq_true (by omega)
    have FN := Lib.hid (NOX.out (E3.out hdz (by omega)) _ _ H3.out.rows)
    clear hdz hrz
    go_wp2_with fail
    go_ret2
    exact FN.out
  ·have i1 : ((deg : Int) == 0) = false := beq_eq_false_iff_ne.2 (by omega)
   have D1 := Lib.hid (D0.out _ _ HK.out H3.out)
   go_wp2_with fail
   with_reducible refine D1.out.mono ?_
   rintro e w4 ⟨v,l,p2,ok,rfl,ho1,ho2,hl9,hlb,h4⟩
   have H4 := Lib.hid h4
   have LB := Lib.hid hlb
   clear c0 c1 c2 c3 c4 c5 c6 c7 D1 D0 H3
   obtain ⟨c0,c1,c2,c3,c4,c5,c6,c7⟩ := CC.out _ _ _ h4
   cases ok with
   | false =>
    have DN := Lib.hid (E1.out (ho2 rfl))
    have F := Lib.hid (NOX.out DN.out _ _ (h4.set p hpB))
    clear h4 hlb ho1 ho2
    go_wp2_with fail
    go_ret2
    exact F.out
   | true =>
    obtain ⟨ho3,hld⟩ := ho1 rfl
    obtain ⟨al,cl,rfl,hcl,hLV⟩ := h4.lv hl9 hlb
    have LV4 := Lib.hid hLV
    have O3 := Lib.hid ho3
    have HLD := Lib.hid hld
    have pw : l.Pairwise (· < ·) := dOut_pw (HOE.out.trans ho3)
    have RL : Hid (Ris l) := Lib.hid ⟨pw,hlb⟩
    obtain ⟨e2y,e2n⟩ := E2.out l p2 ho3 hld
    have EY := Lib.hid e2y
    have EN := Lib.hid e2n
    have S2 := Lib.hid (SU.out w4 al cl l hLV RL.out)
    have hl0 : 0 < l.length := by omega
    have HL0 := Lib.hid hl0
    have hk : deg - 1 < l.length := by omega
    obtain ⟨gl,ol,hal,hgl,hcell,hb32⟩ := hLV.2 (deg - 1) hk
    obtain ⟨la,hla⟩ : ∃ z,l[deg - 1] = z := ⟨_,rfl⟩
    have hla9 : la < 65536 := by rw [<- hla]; exact hlb _ (List.getElem_mem hk)
    have RLA : Hid ((∀ v ∈ l,v < n) ↔ la < n) := Lib.hid (by
     rw [ris_last RL.out hl0 n]
     simp only [hld]
     rw [hla])
    rw [hla] at hcell
    have HCL := Lib.hid (And.intro hgl hcell)
    subst hal
    rw [hld] at S2 hcl hl9 ⊢
    clear h4 hlb ho1 ho2 ho3 hLV pw e2y e2n hl0 hgl hcell hla hb32 hk hld
    have j1 : ((deg : Int) == 0) = false := i1
    have qd : IntKind.i64.wrap ((deg : Int) - 1) = ((deg - 1 : Nat) : Int) := by rw [IntWalk.i64_in _ (by omega)]; omega
    have wla : IntKind.i64.wrap (la : Int) = (la : Int) := IntWalk.i64_in _ (by omega)
    go_upto_region 9 with fail
    go_wp2_with fail
    with_reducible refine S2.out.mono ?_
    rintro e w5 ⟨rfl,k5⟩
    have H5 := Lib.hid (DRR.next H4.out k5)
    have LV5 := Lib.hid (LV.below LV4.out k5)
    have lc : w5.cell? ⟨gl,ol + (deg - 1),none⟩ = some (.int .u32 (la : Int)) := (k5.cell HCL.out.1).trans HCL.out.2
    clear c0 c1 c2 c3 c4 c5 c6 c7 k5
    obtain ⟨c0,c1,c2,c3,c4,c5,c6,c7⟩ := CC.out _ _ _ H5.out
    obtain ⟨dl,hdl⟩ : ∃ z,deg - 1 = z := ⟨_,rfl⟩
    rw [hdl] at qd lc
    have hdl2 : dl < deg := by omega
    have ed : (deg : Int) - 1 = (dl : Int) := by omega
    have HDL := Lib.hid hdl
    clear hdl
    by_cases hln : la < n
    ·have j2 : decide ((la : Int) < (n : Int)) = true := decide_eq_true (by omega)
     have AV : Hid (∀ v ∈ l,v < n) := Lib.hid (RLA.out.2 hln)
     have LY1 := Lib.hid (LY.out w5 _ l cl (by rw [HLD.out]; exact hcl) RL.out LV5.out (Q0.out w5 (DRR.below H5.out) (fun q hq => DRR.has H5.out hq)))
     rw [HLD.out] at LY1
     go_wp2_with fail
     with_reducible refine LY1.out.mono ?_
     rintro e w6 ⟨v6,rfl,own6,k6⟩
     have lne : l ≠ [] := List.length_pos_iff.1 HL0.out
     obtain ⟨q1,q2⟩ := HEQ.out l lne
     have q3 := HTP.out l lne
     have q4 := LL.out l RL.out
     rw [HLD.out] at q2
     obtain ⟨a6,c9,rfl,hc6,hBl⟩ := blv_own own6
     obtain ⟨TL,hTL⟩ : ∃ z,bitsOf (tlN x l ref r ⟨win,itv,zet⟩) = z := ⟨_,rfl⟩
     rw [hTL] at q1 q3
     obtain ⟨HDb,hHD⟩ : ∃ z,bitsOf (hdN l r ⟨win,itv,zet⟩) = z := ⟨_,rfl⟩
     rw [hHD] at q1 q2
     obtain ⟨HB,hHB⟩ : ∃ z,headN deg r win = z := ⟨_,rfl⟩
     have HDR := Lib.hid (HD.out w6)
     rw [hHB] at HDR
     have q2 : HDb.length = HB := q2.trans hHB
     obtain ⟨N,hN⟩ : ∃ z,(lay x l ref r ⟨win,itv,zet⟩).length = z := ⟨_,rfl⟩
     obtain ⟨T,hT⟩ : ∃ z,TL.length = z := ⟨_,rfl⟩
     have hNT : N = HB + T := by rw [<- hN,q1,List.length_append,q2,hT]
     rw [hN] at hc6 q4 ⊢
     rw [hT] at q3
     have H6 := Lib.hid (DRR.next H5.out k6)
     have BL6 := Lib.hid hBl
     have HNT := Lib.hid hNT
     have EQS := Lib.hid (And.intro q1 (And.intro q2 (And.intro hT (And.intro hTL hN))))
     have hp2 : p2 <= B.length := H5.out.2.2.2.1
     clear c0 c1 c2 c3 c4 c5 c6 c7 lc LY1 own6 k6 hBl q1 q2 hTL hHD hHB hN hT lne hNT
     obtain ⟨c0,c1,c2,c3,c4,c5,c6,c7⟩ := CC.out _ _ _ H6.out
     go_wp2_with fail
     with_reducible refine HDR.out.mono ?_
     rintro e w7 ⟨rfl,k7⟩
     have H7 := Lib.hid (DRR.next H6.out k7)
     have BL7 := Lib.hid (BlV.below BL6.out k7)
     clear c0 c1 c2 c3 c4 c5 c6 c7 k7 HDR BL6
     obtain ⟨c0,c1,c2,c3,c4,c5,c6,c7⟩ := CC.out _ _ _ H7.out
     have s1 : IntKind.i64.wrap ((HB : Int) + (p2 : Int)) = (HB : Int) + (p2 : Int) := IntWalk.i64_in _ (by have := HNT.out; omega)
     have s2 : IntKind.i64.wrap ((HB : Int) + (p2 : Int) - (p : Int)) = (HB : Int) + (p2 : Int) - (p : Int) := IntWalk.i64_in _ (by have := HNT.out; omega)
     by_cases hT9 : (T : Int) = (p2 : Int) - (p : Int)
     ·have hp9 : p + T = p2 := by omega
      have hNT := HNT.out
      have j3 : ((N : Int) == (HB : Int) + (p2 : Int) - (p : Int)) = true := beq_iff_eq.2 (by omega)
      obtain ⟨hbd,-,hno⟩ := HHB.out
      obtain ⟨gB,oB,rfl⟩ : ∃ g o,aB = some ⟨g,o,none⟩ := by
       rcases hno with ⟨h1,h2⟩ | h
       ·omega
       ·exact h
      obtain ⟨g6,o6,rfl⟩ : ∃ g o,a6 = some ⟨g,o,none⟩ := by
       obtain ⟨g,o,h,_⟩ := BL7.out 0 (by rw [EQS.out.2.2.2.2]; omega)
       exact ⟨g,o,h⟩
      have e1 : ((lay x l ref r ⟨win,itv,zet⟩).drop HB).take T = TL := by
       rw [EQS.out.1,<- EQS.out.2.1,List.drop_left,<- EQS.out.2.2.1,List.take_length]
      have SM : Hid (∀ W', Below w7.heap.size w7 W' -> Calls Tryz.prog 57 #[.slice (if c9 = HB then some ⟨g6,o6,none⟩ else some ⟨g6,o6 + HB,none⟩) (N - HB) (c9 - HB),.slice (if dB = p then some ⟨gB,oB,none⟩ else some ⟨gB,oB + p,none⟩) (p2 - p) (dB - p)] W' fun e w' => e = .returned (.bool (decide (TL = (B.drop p).take T))) /\ Below W'.heap.size W' w') := Lib.hid (fun W' k => by
       have b1 := BlV.cut (p := HB) (n := T) (BL7.out.below k) (by rw [EQS.out.2.2.2.2]; exact hc6)
       rw [e1] at b1
       have b2 := BlV.cut (p := p) (n := T) (DRR.bits (DRR.next H7.out k)) hbd
       have l2 : ((B.drop p).take T).length = T := by rw [List.length_take,List.length_drop]; omega
       have h1 := dsame_any W' _ _ TL ((B.drop p).take T) (c9 - HB) (dB - p) (by rw [l2,EQS.out.2.2.1]) (by rw [EQS.out.2.2.1]; omega) b1 b2
       rw [l2,EQS.out.2.2.1] at h1
       rw [show N - HB = T by omega,show p2 - p = T by omega]
       exact h1)
      obtain ⟨ao,hao⟩ : ∃ z,(if c9 = HB then some (⟨g6,o6,none⟩ : Addr) else some ⟨g6,o6 + HB,none⟩) = z := ⟨_,rfl⟩
      obtain ⟨bo,hbo⟩ : ∃ z,(if dB = p then some (⟨gB,oB,none⟩ : Addr) else some ⟨gB,oB + p,none⟩) = z := ⟨_,rfl⟩
      rw [hao,hbo] at SM
      obtain ⟨bb,hbb⟩ : ∃ b,decide (TL = (B.drop p).take T) = b := ⟨_,rfl⟩
      rw [hbb] at SM
      have HBB := Lib.hid hbb
      have HL6 := Lib.hid (And.intro hc6 hbd)
      obtain ⟨NB,hNB⟩ : ∃ z,B.length = z := ⟨_,rfl⟩
      have RC := Lib.hid (fun W' (k : Below w7.heap.size w7 W') => (⟨(CC.out _ _ _ (DRR.next H7.out k)).2.2.2.2.2.1,(CC.out _ _ _ (DRR.next H7.out k)).2.2.2.2.2.2.1,k⟩ : W'.cell? ⟨rb,0,none⟩ = some (.slice (some ⟨gB,oB,none⟩) B.length dB) /\ W'.cell? ⟨rb,1,none⟩ = some (.int .i64 (p2 : Int)) /\ Below w7.heap.size w7 W'))
      rw [hNB] at RC hbd hp2 hB9 hpB c5
      have b1 : (0 : Int) <= (HB : Int) := by omega
      have b2 : (HB : Int) <= (N : Int) := by omega
      have b3 : (N : Int) <= (c9 : Int) := by omega
      have b3n : HB <= c9 := by omega
      have b4 : (0 : Int) <= (p : Int) := by omega
      have b5 : (p : Int) <= (p2 : Int) := by omega
      have b6 : (p2 : Int) <= (dB : Int) := by omega
      have b6n : p2 <= dB := by omega
      have b5n : p <= p2 := by omega
      have KX := Lib.hid (fun W' W2 (h : Below w7.heap.size w7 W') (k : Below W'.heap.size W' W2) => h.trans (k.mono h.size))
      have HP9 := Lib.hid hp9
      clear hT9 e1 hbb hp9 hno hNT
      go_upto_region 13 with fail
      have K0 : Below w7.heap.size w7 w7.drew := Below.drew (Below.refl _ _)
      go_region_held3 (fun W' => W'.cell? ⟨rb,0,none⟩ = some (.slice (some ⟨gB,oB,none⟩) NB dB) /\ W'.cell? ⟨rb,1,none⟩ = some (.int .i64 (p2 : Int)) /\ Below w7.heap.size w7 W')
       (first | exact RC.out _ (by assumption) | exact RC.out _ (Below.drew (by assumption)))
       (first | (go_at_call 57; (with_reducible refine (SM.out _ (by first | assumption | exact Below.drew (by assumption))).mono ?_); rintro e w8 ⟨rfl,k8⟩; have k9 := (by first | exact KX.out _ _ (by assumption) k8 | exact KX.out _ _ (Below.drew (by assumption)) k8 : Below w7.heap.size w7 w8)))
      have H8 := Lib.hid (DRR.next H7.out k9)
      clear k8 c0 c1 c2 c3 c4 c5 c6 c7
      obtain ⟨c0,c1,c2,c3,c4,c5,c6,c7⟩ := CC.out _ _ _ H8.out
      cases bb with
      | true =>
       have FN : Hid (DDecP D w wr rd rb (some ⟨gB,oB,none⟩) dB B p K (.returned (.tuple #[.slice (some ⟨gl,ol,none⟩) deg cl,.int .i64 0])) w8) := Lib.hid (by
        rw [EY.out ⟨AV.out,by rw [EQS.out.2.2.2.1,<- HP9.out,Nat.add_sub_cancel_left]; exact of_decide_eq_true HBB.out⟩]
        exact ⟨_,rfl,by
         have h := OUT.out _ _ _ H8.out
         rw [HLD.out] at h
         exact h⟩)
       go_wp2_with fail
       go_ret2
       exact FN.out
      | false =>
       have DN : Hid (D = none) := Lib.hid (EN.out (fun h => by
        have h1 := h.2
        rw [EQS.out.2.2.2.1,<- HP9.out,Nat.add_sub_cancel_left] at h1
        have := of_decide_eq_false HBB.out
        exact this h1))
       have F := Lib.hid (NOX.out DN.out _ _ (DRR.set H8.out p (by rw [hNB]; exact hpB)))
       go_wp2_with fail
       go_ret2
       exact F.out
     ·have j3 : ((N : Int) == (HB : Int) + (p2 : Int) - (p : Int)) = false := beq_eq_false_iff_ne.2 (by have := HNT.out; omega)
      have DN : Hid (D = none) := Lib.hid (EN.out (fun h => hT9 (by
       have h1 := congrArg List.length h.2
       rw [EQS.out.2.2.2.1,EQS.out.2.2.1,List.length_take,List.length_drop] at h1
       omega)))
      have F := Lib.hid (NOX.out DN.out _ _ (DRR.set H7.out p hpB))
      go_wp2_with fail
      go_ret2
      exact F.out
    ·have j2 : decide ((la : Int) < (n : Int)) = false := decide_eq_false (by omega)
     have DN : Hid (D = none) := Lib.hid (EN.out (fun h => hln (RLA.out.1 h.1)))
     have F := Lib.hid (NOX.out DN.out _ _ (DRR.set H5.out p hpB))
     go_wp2_with fail
     go_ret2
     exact F.out
section
variable {w W W2 : World} {wr : Option (Nat × Bits)} {rd : Option (Nat × ByteArray × Nat)} {rb : Nat} {aB : Option Addr} {dB : Nat} {B : Bits} {p : Nat} {K K' : List (Nat × Obj)}
theorem DRd.poke {b j : Nat} {row : Array Value} {T : TypeId} (v : Value) (h : DRd w wr rd rb aB dB B p ((b, .cells row T (0, 0)) :: K) W) (hne : ∀ q ∈ K, q.1 ≠ b) (hB : BSt K aB B) : DRd w wr rd rb aB dB B p ((b, .cells (row.setIfInBounds j v) T (0, 0)) :: K) (W.setCell ⟨b, j, none⟩ v) := by
 obtain ⟨h1,h2,h3,h4⟩ := h
 have hb : b ≠ rb := h2 (b,_) (List.mem_cons_self ..)
 have f := (h1.sub (ks' := (b,.cells row T (0,0)) :: (rb,.cells #[.slice aB B.length dB,.int .i64 (p : Int)] 29 (0,0)) :: K) (fun q hq => by
  simp only [List.mem_cons] at hq ⊢
  rcases hq with hq | hq | hq
  ·exact .inr (.inl hq)
  ·exact .inl hq
  ·exact .inr (.inr hq))).store (j := j) v (fun q hq => by
  rcases List.mem_cons.1 hq with rfl | hq
  ·exact fun e => hb e.symm
  ·exact hne q hq)
 refine ⟨f.sub (fun q hq => ?_),fun q hq => ?_,hB.more (fun q hq => List.mem_cons_of_mem _ hq),h4⟩
 ·simp only [List.mem_cons] at hq ⊢
  rcases hq with hq | hq | hq
  ·exact .inr (.inl hq)
  ·exact .inl hq
  ·exact .inr (.inr hq)
 ·rcases List.mem_cons.1 hq with rfl | hq
  ·exact hb
  ·exact h2 q (List.mem_cons_of_mem _ hq)
end
set_option maxRecDepth 100000 in
set_option maxHeartbeats 6400000 in
theorem dhead_any {w W : World} {wr : Option (Nat × Bits)} {rd : Option (Nat × ByteArray × Nat)} {rb : Nat} {aB : Option Addr} {dB : Nat} {B : Bits} {p : Nat} {K : List (Nat × Obj)} (h : DRd w wr rd rb aB dB B p K W) (pr : Pr) (hp : pr.ok) :
  Calls Tryz.prog 13 #[.pointer (some ⟨rb,0,none⟩),parV (pr.win : Int) (pr.itv : Int) (pr.zet : Int)] W fun e w' => e = .returned (hrV (hread pr.win B p)) /\ DRd w wr rd rb aB dB B (hrA p (hread pr.win B p)) K w' := by
 have HB6 := Lib.hid h.2.2.1
 have hpB := h.2.2.2.1
 have hB9 := h.2.2.2.2.2.1
 obtain ⟨win,itv,zet⟩ := pr
 obtain ⟨hp1,hp2,hp3⟩ := hp
 dsimp only at hp1 hp2 hp3 ⊢
 have CK : Hid (∀ W,Calls Tryz.prog 47 #[.agg #[.int .i64 (win : Int),.int .i64 (itv : Int),.int .i64 (zet : Int)]] W fun e w' => e = .returned (.int .i64 0) /\ Below W.heap.size W w') := Lib.hid (fun W => by
  have h := dcheck_any (win : Int) (itv : Int) (zet : Int) W
  rw [if_pos (show ParOk (win : Int) (itv : Int) (zet : Int) from ⟨by omega,by omega,by omega,by omega,by omega⟩)] at h
  exact h)
 have h9 := (h.add #[.int .i64 (win : Int),.int .i64 (itv : Int),.int .i64 (zet : Int)] 36).add #[.int .i64 0,.int .i64 0] 33
 rw [show (W.alloc (.cells #[.int .i64 (win : Int),.int .i64 (itv : Int),.int .i64 (zet : Int)] 36)).heap.size = W.heap.size + 1 by simp] at h9
 have hKlt : ∀ q ∈ K,q.1 < W.heap.size := fun q hq => lt_of_block (h.1.row (b := q.1) (o := q.2) (List.mem_cons_of_mem _ hq))
 obtain ⟨sz,hsz⟩ : ∃ z,W.heap.size = z := ⟨_,rfl⟩
 rw [hsz] at h9 hKlt
 obtain ⟨K1,hK1⟩ : ∃ K', (sz,Obj.cells #[.int .i64 (win : Int),.int .i64 (itv : Int),.int .i64 (zet : Int)] 36 (0,0)) :: K = K' := ⟨_,rfl⟩
 rw [hK1] at h9
 have HN1 : Hid (∀ q ∈ K1,q.1 ≠ sz + 1) := Lib.hid (fun q hq => by
  rw [<- hK1] at hq
  rcases List.mem_cons.1 hq with rfl | hq
  ·show sz ≠ sz + 1
   omega
  ·have := hKlt q hq
   omega)
 have HB1 : Hid (BSt K1 aB B) := Lib.hid (HB6.out.more (fun q hq => by rw [<- hK1]; exact List.mem_cons_of_mem _ hq))
 have HK : Hid (∀ q ∈ K,q ∈ K1) := Lib.hid (fun q hq => by rw [<- hK1]; exact List.mem_cons_of_mem _ hq)
 have H0 := Lib.hid h9
 have C1 : Hid (∀ W' p' K', (∀ q ∈ K1,q ∈ K') -> DRd w wr rd rb aB dB B p' K' W' -> W'.cell? ⟨sz,0,none⟩ = some (.int .i64 (win : Int)) /\ W'.cell? ⟨sz,1,none⟩ = some (.int .i64 (itv : Int)) /\ W'.cell? ⟨sz,2,none⟩ = some (.int .i64 (zet : Int)) /\ W'.cell? ⟨rb,1,none⟩ = some (.int .i64 (p' : Int)) /\ W'.frozen? ⟨rb,1,none⟩ = false) := Lib.hid (fun W' p' K' hk h => by
  have r : W'.heap[sz]? = some (.cells #[.int .i64 (win : Int),.int .i64 (itv : Int),.int .i64 (zet : Int)] 36 (0,0)) := h.1.row (List.mem_cons_of_mem _ (hk _ (by rw [<- hK1]; exact List.mem_cons_self ..)))
  exact ⟨by rw [cell_of_row _ _ _ _ _ _ r]; rfl,by rw [cell_of_row _ _ _ _ _ _ r]; rfl,by rw [cell_of_row _ _ _ _ _ _ r]; rfl,h.cells.2.1,h.cells.2.2⟩)
 have C2 : Hid (∀ W' p' K', ((sz + 1,Obj.cells #[.int .i64 0,.int .i64 0] 33 (0,0)) ∈ K') -> DRd w wr rd rb aB dB B p' K' W' -> W'.cell? ⟨sz + 1,0,none⟩ = some (.int .i64 0) /\ W'.cell? ⟨sz + 1,1,none⟩ = some (.int .i64 0) /\ ∀ j,W'.frozen? ⟨sz + 1,j,none⟩ = false) := Lib.hid (fun W' p' K' hk h => by
  have r := h.1.row (List.mem_cons_of_mem _ hk)
  exact ⟨by rw [cell_of_row _ _ _ _ _ _ r]; rfl,by rw [cell_of_row _ _ _ _ _ _ r]; rfl,fun j => frozen_of_row W' _ j _ _ r⟩)
 have FIN : Hid (∀ W' p' (a b : Value),DRd w wr rd rb aB dB B p' ((sz + 1,Obj.cells #[.int .i64 0,.int .i64 0] 33 (0,0)) :: K1) W' -> DRd w wr rd rb aB dB B p' K ((W'.setCell ⟨sz + 1,0,none⟩ a).setCell ⟨sz + 1,1,none⟩ b) /\ ((W'.setCell ⟨sz + 1,0,none⟩ a).setCell ⟨sz + 1,1,none⟩ b).cell? ⟨sz + 1,0,none⟩ = some a /\ ((W'.setCell ⟨sz + 1,0,none⟩ a).setCell ⟨sz + 1,1,none⟩ b).cell? ⟨sz + 1,1,none⟩ = some b) := Lib.hid (fun W' p' a b h => by
  have h2 := (h.poke (j := 0) a HN1.out HB1.out).poke (j := 1) b HN1.out HB1.out
  have r := h2.1.row (List.mem_cons_of_mem _ (List.mem_cons_self ..))
  exact ⟨h2.less (fun q hq => List.mem_cons_of_mem _ (HK.out q hq)) HB6.out,by rw [cell_of_row _ _ _ _ _ _ r]; rfl,by rw [cell_of_row _ _ _ _ _ _ r]; rfl⟩)
 have RG := Lib.hid (fun W' p' K' (h : DRd w wr rd rb aB dB B p' K' W') => h.read .gam trivial)
 have RU := Lib.hid (fun W' p' K' (h : DRd w wr rd rb aB dB B p' K' W') => h.read .una trivial)
 unfold cdV at RG RU
 have HG := Lib.hid (fun v n a' (h : ls.rd .gam (B.drop a') = some (v,n)) => rd_bound .gam trivial h)
 have HU := Lib.hid (fun v n a' (h : ls.rd .una (B.drop a') = some (v,n)) => rd_bound .una trivial h)
 obtain ⟨A,hA⟩ : ∃ A,hread win B p = A := ⟨_,rfl⟩
 have HA : Hid (A = (ls.rd .gam (B.drop p)).bind fun q => if 0 < q.1 /\ 0 < win then (ls.rd .una (B.drop (p + q.2))).bind fun q2 => if q.1 <= 65536 /\ q2.1 <= win then some (q.1,q2.1,p + q.2 + q2.2) else none
  else if q.1 <= 65536 then some (q.1,0,p + q.2) else none) := Lib.hid (by rw [<- hA]; rfl)
 rw [hA]
 unfold parV
 clear h h9 hA hKlt hK1
 go_enter Tryz.func13,Tryz.ntmps13
 go_upto_region 1 with fail
 generalize World.alloc (World.alloc W _) _ = W0 at H0 ⊢
 have m6 : ¬ (sz + 1 = rb) := H0.out.2.1 (sz + 1,_) (List.mem_cons_self ..)
 have m7 : ¬ (rb = sz + 1) := fun e => m6 e.symm
 obtain ⟨c0,c1,c2,c3,-⟩ := C1.out _ _ _ (fun q hq => List.mem_cons_of_mem _ hq) H0.out
 go_wp2_with fail
 with_reducible refine (CK.out _).mono ?_
 rintro e w1 ⟨rfl,k1⟩
 have H1 := Lib.hid (H0.out.next k1)
 clear c0 c1 c2 c3 k1 H0
 obtain ⟨c0,-,-,c3,-⟩ := C1.out _ _ _ (fun q hq => List.mem_cons_of_mem _ hq) H1.out
 have R1 := Lib.hid (RG.out _ _ _ H1.out)
 go_wp2_with fail
 with_reducible refine R1.out.mono ?_
 rintro e w2 ⟨hr1,hr2⟩
 clear c0 c3 R1
 obtain ⟨o1,ho1⟩ : ∃ o,ls.rd .gam (B.drop p) = o := ⟨_,rfl⟩
 rw [ho1] at hr1 hr2 HA
 cases o1 with
 | none =>
  obtain ⟨rfl,h2⟩ := hr2 rfl
  have AN : Hid (A = none) := Lib.hid HA.out
  have h3 := h2.add #[.int .i64 0,.int .i64 0] 33
  have hb1 : sz + 1 < w2.heap.size := lt_of_block (h2.1.row (b := sz + 1) (List.mem_cons_of_mem _ (List.mem_cons_self ..)))
  have hKlt2 : ∀ q ∈ K1,q.1 < w2.heap.size := fun q hq => lt_of_block (h2.1.row (b := q.1) (o := q.2) (List.mem_cons_of_mem _ (List.mem_cons_of_mem _ hq)))
  obtain ⟨hb,hhb⟩ : ∃ z,w2.heap.size = z := ⟨_,rfl⟩
  rw [hhb] at h3 hb1 hKlt2
  have HN3 : Hid (∀ q ∈ (sz + 1,Obj.cells #[.int .i64 0,.int .i64 0] 33 (0,0)) :: K1,q.1 ≠ hb) := Lib.hid (fun q hq => by
   rcases List.mem_cons.1 hq with rfl | hq
   ·show sz + 1 ≠ hb
    omega
   ·have := hKlt2 q hq
    omega)
  have m1 : ¬ (sz + 1 = hb) := by omega
  have m2 : ¬ (hb = sz + 1) := by omega
  have m3 : ¬ (sz = hb) := by omega
  have m4 : ¬ (hb = rb) := h3.2.1 (hb,_) (List.mem_cons_self ..)
  have m5 : ¬ (rb = hb) := fun e => m4 e.symm
  clear hr1 hr2 h2 ho1 hb1 hKlt2
  go_upto_region 6 with fail
  generalize World.alloc w2 _ = w3 at h3 ⊢
  have D3 := Lib.hid h3
  obtain ⟨c0,-,-,c3,c4⟩ := C1.out _ _ _ (fun q hq => List.mem_cons_of_mem _ (List.mem_cons_of_mem _ hq)) h3
  obtain ⟨d0,d1,d2⟩ := C2.out _ _ _ (List.mem_cons_of_mem _ (List.mem_cons_self ..)) h3
  have rh := h3.1.row (List.mem_cons_of_mem _ (List.mem_cons_self ..))
  have e0 : w3.cell? ⟨hb,0,none⟩ = some (.int .i64 0) := by rw [cell_of_row _ _ _ _ _ _ rh]; rfl
  have e1 : w3.cell? ⟨hb,1,none⟩ = some (.int .i64 0) := by rw [cell_of_row _ _ _ _ _ _ rh]; rfl
  have e2 : ∀ j,w3.frozen? ⟨hb,j,none⟩ = false := fun j => frozen_of_row w3 hb j _ _ rh
  clear h3 rh hhb
  go_wp2_with fail
  have F := FIN.out _ _ (.int .i64 0) (.int .i64 0) ((D3.out.set p hpB).less (fun q hq => List.mem_cons_of_mem _ hq) (HB1.out.more (fun q hq => List.mem_cons_of_mem _ hq)))
  generalize World.setCell (World.setCell (World.setCell _ _ _) _ _) _ _ = W5 at F ⊢
  obtain ⟨F1,q0,q1⟩ := F
  rw [AN.out]
  exact bodyPost_ret (v := hrV none) (by simp [results,Tryz.results13,go_sem,hrV,q0,q1]) rfl ⟨rfl,F1⟩
 | some q =>
  obtain ⟨v,n1⟩ := q
  obtain ⟨rfl,h2⟩ := hr1 v n1 rfl
  have hv9 : v <= 281474976710654 := (HG.out v n1 p ho1).1
  have wv : IntKind.i64.wrap (v : Int) = (v : Int) := IntWalk.i64_in _ (by omega)
  have hp9 := h2.2.2.2.1
  by_cases hvw : 0 < v /\ 0 < win
  ·have AE : Hid (A = (ls.rd .una (B.drop (p + n1))).bind fun q2 => if v <= 65536 /\ q2.1 <= win then some (v,q2.1,p + n1 + q2.2) else none) := Lib.hid (HA.out.trans (if_pos hvw))
   obtain ⟨hv0,hw0⟩ := hvw
   have i1 : decide ((0 : Int) < (v : Int)) = true := decide_eq_true (by omega)
   have i2 : decide ((0 : Int) < (win : Int)) = true := decide_eq_true (by omega)
   have h3 := h2.add #[.int .i64 (v : Int),.int .i64 0] 33
   have hb1 : sz + 1 < w2.heap.size := lt_of_block (h2.1.row (b := sz + 1) (List.mem_cons_of_mem _ (List.mem_cons_self ..)))
   have hKlt2 : ∀ q ∈ K1,q.1 < w2.heap.size := fun q hq => lt_of_block (h2.1.row (b := q.1) (o := q.2) (List.mem_cons_of_mem _ (List.mem_cons_of_mem _ hq)))
   obtain ⟨hb,hhb⟩ : ∃ z,w2.heap.size = z := ⟨_,rfl⟩
   rw [hhb] at h3 hb1 hKlt2
   have HN3 : Hid (∀ q ∈ (sz + 1,Obj.cells #[.int .i64 0,.int .i64 0] 33 (0,0)) :: K1,q.1 ≠ hb) := Lib.hid (fun q hq => by
    rcases List.mem_cons.1 hq with rfl | hq
    ·show sz + 1 ≠ hb
     omega
    ·have := hKlt2 q hq
     omega)
   have m1 : ¬ (sz + 1 = hb) := by omega
   have m2 : ¬ (hb = sz + 1) := by omega
   have m3 : ¬ (sz = hb) := by omega
   have m4 : ¬ (hb = rb) := h3.2.1 (hb,_) (List.mem_cons_self ..)
   have m5 : ¬ (rb = hb) := fun e => m4 e.symm
   clear hr1 hr2 h2 ho1 hb1 hKlt2
   go_upto_region 6 with fail
   generalize World.alloc w2 _ = w3 at h3 ⊢
   have D3 := Lib.hid h3
   obtain ⟨c0,-,-,c3,c4⟩ := C1.out _ _ _ (fun q hq => List.mem_cons_of_mem _ (List.mem_cons_of_mem _ hq)) h3
   obtain ⟨d0,d1,d2⟩ := C2.out _ _ _ (List.mem_cons_of_mem _ (List.mem_cons_self ..)) h3
   have rh := h3.1.row (List.mem_cons_of_mem _ (List.mem_cons_self ..))
   have e0 : w3.cell? ⟨hb,0,none⟩ = some (.int .i64 (v : Int)) := by rw [cell_of_row _ _ _ _ _ _ rh]; rfl
   have e1 : w3.cell? ⟨hb,1,none⟩ = some (.int .i64 0) := by rw [cell_of_row _ _ _ _ _ _ rh]; rfl
   have e2 : ∀ j,w3.frozen? ⟨hb,j,none⟩ = false := fun j => frozen_of_row w3 hb j _ _ rh
   clear h3 rh hhb
   have R2 := Lib.hid (RU.out _ _ _ D3.out)
   go_wp2_with fail
   with_reducible refine R2.out.mono ?_
   rintro e w4 ⟨hr1,hr2⟩
   clear R2 c0 c3 c4 d0 d1 d2 e0 e1 e2
   obtain ⟨o2,ho2⟩ : ∃ o,ls.rd .una (B.drop (p + n1)) = o := ⟨_,rfl⟩
   rw [ho2] at hr1 hr2 AE
   cases o2 with
   | none =>
    obtain ⟨rfl,h4⟩ := hr2 rfl
    have AN : Hid (A = none) := Lib.hid AE.out
    have D4 := Lib.hid h4
    obtain ⟨c0,-,-,c3,c4⟩ := C1.out _ _ _ (fun q hq => List.mem_cons_of_mem _ (List.mem_cons_of_mem _ hq)) h4
    obtain ⟨d0,d1,d2⟩ := C2.out _ _ _ (List.mem_cons_of_mem _ (List.mem_cons_self ..)) h4
    have rh := h4.1.row (List.mem_cons_of_mem _ (List.mem_cons_self ..))
    have e0 : w4.cell? ⟨hb,0,none⟩ = some (.int .i64 (v : Int)) := by rw [cell_of_row _ _ _ _ _ _ rh]; rfl
    have e1 : w4.cell? ⟨hb,1,none⟩ = some (.int .i64 0) := by rw [cell_of_row _ _ _ _ _ _ rh]; rfl
    have e2 : ∀ j,w4.frozen? ⟨hb,j,none⟩ = false := fun j => frozen_of_row w4 hb j _ _ rh
    clear h4 rh hr1 hr2 ho2
    have D5 := Lib.hid (D4.out.poke (j := 1) (.int .i64 0) HN3.out (HB1.out.more (fun q hq => List.mem_cons_of_mem _ hq)))
    go_wp2_with fail
    have F := FIN.out _ _ (.int .i64 0) (.int .i64 0) ((D5.out.set p hpB).less (fun q hq => List.mem_cons_of_mem _ hq) (HB1.out.more (fun q hq => List.mem_cons_of_mem _ hq)))
    generalize World.setCell (World.setCell (World.setCell _ _ _) _ _) _ _ = W5 at F ⊢
    obtain ⟨F1,q0,q1⟩ := F
    rw [AN.out]
    exact bodyPost_ret (v := hrV none) (by simp [results,Tryz.results13,go_sem,hrV,q0,q1]) rfl ⟨rfl,F1⟩
   | some q2 =>
    obtain ⟨r,n2⟩ := q2
    obtain ⟨rfl,h4⟩ := hr1 r n2 rfl
    have hr9 : r <= 9223372036854775806 := Nat.le_trans (HU.out r n2 _ ho2).1 (by decide)
    have wr9 : IntKind.i64.wrap (r : Int) = (r : Int) := IntWalk.i64_in _ (by omega)
    have D4 := Lib.hid h4
    obtain ⟨c0,-,-,c3,c4⟩ := C1.out _ _ _ (fun q hq => List.mem_cons_of_mem _ (List.mem_cons_of_mem _ hq)) h4
    obtain ⟨d0,d1,d2⟩ := C2.out _ _ _ (List.mem_cons_of_mem _ (List.mem_cons_self ..)) h4
    have rh := h4.1.row (List.mem_cons_of_mem _ (List.mem_cons_self ..))
    have e0 : w4.cell? ⟨hb,0,none⟩ = some (.int .i64 (v : Int)) := by rw [cell_of_row _ _ _ _ _ _ rh]; rfl
    have e1 : w4.cell? ⟨hb,1,none⟩ = some (.int .i64 0) := by rw [cell_of_row _ _ _ _ _ _ rh]; rfl
    have e2 : ∀ j,w4.frozen? ⟨hb,j,none⟩ = false := fun j => frozen_of_row w4 hb j _ _ rh
    clear h4 rh hr1 hr2 ho2
    have D5 := Lib.hid (D4.out.poke (j := 1) (.int .i64 (r : Int)) HN3.out (HB1.out.more (fun q hq => List.mem_cons_of_mem _ hq)))
    by_cases hv6 : v <= 65536
    ·have j1 : decide ((65536 : Int) < (v : Int)) = false := decide_eq_false (by omega)
     have j1n : decide (65536 < v) = false := decide_eq_false (by omega)
     by_cases hrw : r <= win
     ·have AN : Hid (A = some (v,r,p + n1 + n2)) := Lib.hid (AE.out.trans (if_pos ⟨hv6,hrw⟩))
      have j2 : decide ((win : Int) < (r : Int)) = false := decide_eq_false (by omega)
      have j2n : decide (win < r) = false := decide_eq_false (by omega)
      go_wp2_with fail
      have F := FIN.out _ _ (.int .i64 (v : Int)) (.int .i64 (r : Int)) (D5.out.less (fun q hq => List.mem_cons_of_mem _ hq) (HB1.out.more (fun q hq => List.mem_cons_of_mem _ hq)))
      generalize World.setCell (World.setCell _ _ _) _ _ = W5 at F ⊢
      obtain ⟨F1,q0,q1⟩ := F
      rw [AN.out]
      exact bodyPost_ret (v := hrV (some (v,r,p + n1 + n2))) (by simp [results,Tryz.results13,go_sem,hrV,q0,q1]) rfl ⟨rfl,F1⟩
     ·have AN : Hid (A = none) := Lib.hid (AE.out.trans (if_neg (fun h => hrw h.2)))
      have j2 : decide ((win : Int) < (r : Int)) = true := decide_eq_true (by omega)
      have j2n : decide (win < r) = true := decide_eq_true (by omega)
      go_wp2_with fail
      have F := FIN.out _ _ (.int .i64 0) (.int .i64 0) ((D5.out.set p hpB).less (fun q hq => List.mem_cons_of_mem _ hq) (HB1.out.more (fun q hq => List.mem_cons_of_mem _ hq)))
      generalize World.setCell (World.setCell (World.setCell _ _ _) _ _) _ _ = W5 at F ⊢
      obtain ⟨F1,q0,q1⟩ := F
      rw [AN.out]
      exact bodyPost_ret (v := hrV none) (by simp [results,Tryz.results13,go_sem,hrV,q0,q1]) rfl ⟨rfl,F1⟩
    ·have AN : Hid (A = none) := Lib.hid (AE.out.trans (if_neg (fun h => hv6 h.1)))
     have j1 : decide ((65536 : Int) < (v : Int)) = true := decide_eq_true (by omega)
     have j1n : decide (65536 < v) = true := decide_eq_true (by omega)
     go_wp2_with fail
     have F := FIN.out _ _ (.int .i64 0) (.int .i64 0) ((D5.out.set p hpB).less (fun q hq => List.mem_cons_of_mem _ hq) (HB1.out.more (fun q hq => List.mem_cons_of_mem _ hq)))
     generalize World.setCell (World.setCell (World.setCell _ _ _) _ _) _ _ = W5 at F ⊢
     obtain ⟨F1,q0,q1⟩ := F
     rw [AN.out]
     exact bodyPost_ret (v := hrV none) (by simp [results,Tryz.results13,go_sem,hrV,q0,q1]) rfl ⟨rfl,F1⟩
  ·have AE : Hid (A = if v <= 65536 then some (v,0,p + n1) else none) := Lib.hid (HA.out.trans (if_neg hvw))
   have h3 := h2.add #[.int .i64 (v : Int),.int .i64 0] 33
   have hb1 : sz + 1 < w2.heap.size := lt_of_block (h2.1.row (b := sz + 1) (List.mem_cons_of_mem _ (List.mem_cons_self ..)))
   have hKlt2 : ∀ q ∈ K1,q.1 < w2.heap.size := fun q hq => lt_of_block (h2.1.row (b := q.1) (o := q.2) (List.mem_cons_of_mem _ (List.mem_cons_of_mem _ hq)))
   obtain ⟨hb,hhb⟩ : ∃ z,w2.heap.size = z := ⟨_,rfl⟩
   rw [hhb] at h3 hb1 hKlt2
   have HN3 : Hid (∀ q ∈ (sz + 1,Obj.cells #[.int .i64 0,.int .i64 0] 33 (0,0)) :: K1,q.1 ≠ hb) := Lib.hid (fun q hq => by
    rcases List.mem_cons.1 hq with rfl | hq
    ·show sz + 1 ≠ hb
     omega
    ·have := hKlt2 q hq
     omega)
   have m1 : ¬ (sz + 1 = hb) := by omega
   have m2 : ¬ (hb = sz + 1) := by omega
   have m3 : ¬ (sz = hb) := by omega
   have m4 : ¬ (hb = rb) := h3.2.1 (hb,_) (List.mem_cons_self ..)
   have m5 : ¬ (rb = hb) := fun e => m4 e.symm
   clear hr1 hr2 h2 ho1 hb1 hKlt2
   go_upto_region 6 with fail
   generalize World.alloc w2 _ = w3 at h3 ⊢
   have D3 := Lib.hid h3
   obtain ⟨c0,-,-,c3,c4⟩ := C1.out _ _ _ (fun q hq => List.mem_cons_of_mem _ (List.mem_cons_of_mem _ hq)) h3
   obtain ⟨d0,d1,d2⟩ := C2.out _ _ _ (List.mem_cons_of_mem _ (List.mem_cons_self ..)) h3
   have rh := h3.1.row (List.mem_cons_of_mem _ (List.mem_cons_self ..))
   have e0 : w3.cell? ⟨hb,0,none⟩ = some (.int .i64 (v : Int)) := by rw [cell_of_row _ _ _ _ _ _ rh]; rfl
   have e1 : w3.cell? ⟨hb,1,none⟩ = some (.int .i64 0) := by rw [cell_of_row _ _ _ _ _ _ rh]; rfl
   have e2 : ∀ j,w3.frozen? ⟨hb,j,none⟩ = false := fun j => frozen_of_row w3 hb j _ _ rh
   clear h3 rh hhb
   by_cases hv6 : v <= 65536
   ·have AN : Hid (A = some (v,0,p + n1)) := Lib.hid (AE.out.trans (if_pos hv6))
    have j1 : decide ((65536 : Int) < (v : Int)) = false := decide_eq_false (by omega)
    have j1n : decide (65536 < v) = false := decide_eq_false (by omega)
    have j3 : decide ((win : Int) < 0) = false := decide_eq_false (by omega)
    by_cases hv0 : 0 < v
    ·have hw0 : win = 0 := by omega
     subst hw0
     go_wp2_with fail
     have F := FIN.out _ _ (.int .i64 (v : Int)) (.int .i64 0) (D3.out.less (fun q hq => List.mem_cons_of_mem _ hq) (HB1.out.more (fun q hq => List.mem_cons_of_mem _ hq)))
     generalize World.setCell (World.setCell _ _ _) _ _ = W5 at F ⊢
     obtain ⟨F1,q0,q1⟩ := F
     rw [AN.out]
     exact bodyPost_ret (v := hrV (some (v,0,p + n1))) (by simp [results,Tryz.results13,go_sem,hrV,q0,q1]) rfl ⟨rfl,F1⟩
    ·have hv00 : v = 0 := by omega
     subst hv00
     go_wp2_with fail
     have F := FIN.out _ _ (.int .i64 0) (.int .i64 0) (D3.out.less (fun q hq => List.mem_cons_of_mem _ hq) (HB1.out.more (fun q hq => List.mem_cons_of_mem _ hq)))
     generalize World.setCell (World.setCell _ _ _) _ _ = W5 at F ⊢
     obtain ⟨F1,q0,q1⟩ := F
     rw [AN.out]
     exact bodyPost_ret (v := hrV (some (0,0,p + n1))) (by simp [results,Tryz.results13,go_sem,hrV,q0,q1]) rfl ⟨rfl,F1⟩
   ·have AN : Hid (A = none) := Lib.hid (AE.out.trans (if_neg hv6))
    have j1 : decide ((65536 : Int) < (v : Int)) = true := decide_eq_true (by omega)
    have j1n : decide (65536 < v) = true := decide_eq_true (by omega)
    have hw0 : win = 0 := by omega
    subst hw0
    go_wp2_with fail
    have F := FIN.out _ _ (.int .i64 0) (.int .i64 0) ((D3.out.set p hpB).less (fun q hq => List.mem_cons_of_mem _ hq) (HB1.out.more (fun q hq => List.mem_cons_of_mem _ hq)))
    generalize World.setCell (World.setCell (World.setCell _ _ _) _ _) _ _ = W5 at F ⊢
    obtain ⟨F1,q0,q1⟩ := F
    rw [AN.out]
    exact bodyPost_ret (v := hrV none) (by simp [results,Tryz.results13,go_sem,hrV,q0,q1]) rfl ⟨rfl,F1⟩
theorem DRd.start {w W W2 : World} {wr : Option (Nat × Bits)} {rd : Option (Nat × ByteArray × Nat)} {ks : List (Nat × Obj)} {B : Bits} {v : Value} (h : FS w wr rd ks W) (k : Below W.heap.size W W2) (own : W2.ownsRow W.heap.size 4 1 v B.length (bls B)) (hB : B.length ≤ 4611686018427387903) :
  ∃ ka aB dB,v = .slice aB B.length dB /\ DRd w wr rd W2.heap.size aB dB B 0 (ka ++ ks) (W2.alloc (.cells #[v,.int .i64 0] 29)) := by
 have key : ∃ (ka : List (Nat × Obj)) (aB : Option Addr) (dB : Nat),v = .slice aB B.length dB /\ B.length <= dB /\ BSt ka aB B /\ (∀ p ∈ ka,W.heap.size <= p.1 /\ W2.heap[p.1]? = some p.2) /\ (aB = none /\ dB = 0 \/ ∃ g o,aB = some ⟨g,o,none⟩) := by
  rcases own.2 with ⟨rfl,h0⟩ | ⟨g,cap,cur,rfl,hbg,hg,hn,_,_,htake⟩
  ·have hl0 : B = [] := List.eq_nil_of_length_eq_zero h0
   subst hl0
   exact ⟨[],none,0,rfl,Nat.le_refl _,(fun W _ k hk => by cases hk),(fun p hp => by cases hp),.inl ⟨rfl,rfl⟩⟩
  ·refine ⟨[(g,.cells cur 4 (0,0))],_,cap,rfl,hn,fun W' hW' i hi => ?_,fun p hp => by rw [List.mem_singleton.1 hp]; exact ⟨hbg,hg⟩,.inr ⟨g,0,rfl⟩⟩
   have hr := hW' _ (List.mem_singleton.2 rfl)
   refine ⟨g,0,rfl,lt_of_block hr,?_⟩
   have hx : (bls B)[i]? = some (.bool B[i]) := by simp [bls,hi]
   rw [<- htake,List.getElem?_take_of_lt (by omega)] at hx
   rw [Nat.zero_add,cell_of_row _ _ _ _ _ _ hr,<- Array.getElem?_toList]
   exact hx
 obtain ⟨ka,aB,dB,e1,e2,e3,e4,e5⟩ := key
 have f := (h.more k e4).add #[v,.int .i64 0] 29
 refine ⟨ka,aB,dB,e1,?_,fun q hq e => ?_,e3.more (fun q hq => List.mem_append_left _ hq),Nat.zero_le _,e2,hB,e5⟩
 ·rw [e1] at f
  rw [e1]
  exact f
 ·have := lt_of_block ((h.more k e4).row (b := q.1) (o := q.2) hq)
  omega
set_option maxRecDepth 100000 in
theorem DRd.seek {w W : World} {wr : Option (Nat × Bits)} {rd : Option (Nat × ByteArray × Nat)} {rb : Nat} {aB : Option Addr} {dB : Nat} {B : Bits} {p : Nat} {K : List (Nat × Obj)} (h : DRd w wr rd rb aB dB B p K W) (z : Nat) (hz : z ≤ B.length) :
  Calls Tryz.prog 10 #[.pointer (some ⟨rb,0,none⟩),.int .i64 (z : Int)] W fun e w' => e = .returned (.int .i64 0) /\ DRd w wr rd rb aB dB B z K w' := by
 obtain ⟨c0,c1,c2⟩ := h.cells
 have D := Lib.hid (h.set z hz)
 obtain ⟨n,hn⟩ : ∃ n,B.length = n := ⟨_,rfl⟩
 rw [hn] at c0 hz
 have i1 : decide ((z : Int) < 0) = false := decide_eq_false (by omega)
 have i2 : decide ((n : Int) < (z : Int)) = false := decide_eq_false (by omega)
 have i3 : decide (n < z) = false := decide_eq_false (by omega)
 clear h hn
 go_enter Tryz.func10,Tryz.ntmps10
 go_wp2_with fail
 go_ret
 exact ⟨rfl,D.out⟩
set_option maxRecDepth 100000 in
theorem DRd.seek_no {w W : World} {wr : Option (Nat × Bits)} {rd : Option (Nat × ByteArray × Nat)} {rb : Nat} {aB : Option Addr} {dB : Nat} {B : Bits} {p : Nat} {K : List (Nat × Obj)} (h : DRd w wr rd rb aB dB B p K W) (z : Int) (hz : z < 0 ∨ (B.length : Int) < z) :
  Calls Tryz.prog 10 #[.pointer (some ⟨rb,0,none⟩),.int .i64 z] W fun e w' => e = .returned (.int .i64 1) /\ DRd w wr rd rb aB dB B p K w' := by
 obtain ⟨c0,c1,c2⟩ := h.cells
 have D := Lib.hid h
 obtain ⟨n,hn⟩ : ∃ n,B.length = n := ⟨_,rfl⟩
 rw [hn] at c0 hz
 clear h hn
 by_cases h1 : z < 0
 ·go_enter Tryz.func10,Tryz.ntmps10
  go_wp2_with fail
  go_ret
  exact ⟨rfl,D.out⟩
 ·have h2 : (n : Int) < z := by omega
  clear hz
  go_enter Tryz.func10,Tryz.ntmps10
  go_wp2_with fail
  go_ret
  exact ⟨rfl,D.out⟩
theorem Seek_no (x : Nat → Nat) (c : Nat) (s : ByteArray) (a : Nat) (z : Int) (rb : Nat) (w : World) (h : RdC x c w rb s a) (hz : z < 0 ∨ ((8 * s.size : Nat) : Int) < z) :
  Calls Tryz.prog 9 #[.pointer (some ⟨rb,0,none⟩),.int .i64 z] w fun e w' => e = .returned (.int .i64 1) /\ w = w' := by
 obtain ⟨h0,hx,ha,hs⟩ := h
 have c0 : w.cell? ⟨rb,0,none⟩ = some (.string s) := by rw [cell_of_row w rb _ _ _ _ h0]; rfl
 have hw1 : IntKind.i64.wrap (8 * (s.size : Int)) = 8 * (s.size : Int) := IntWalk.i64_in _ (by omega)
 clear h0
 by_cases h1 : z < 0
 ·go_enter Tryz.func9,Tryz.ntmps9
  go_wp2_with fail
  go_ret
  exact ⟨rfl,rfl⟩
 ·have h2 : 8 * (s.size : Int) < z := by omega
  clear hz
  go_enter Tryz.func9,Tryz.ntmps9
  go_wp2_with fail
  go_ret
  exact ⟨rfl,rfl⟩
theorem dec_end {B : Bits} {x n deg : Nat} {ref : List Nat} {r : Nat} {p : Pr} (hp : p.ok) {a : Nat} {q : List Nat × Nat} (ha : a ≤ B.length) (h : dec B x n deg ref r p a = some q) : q.2 ≤ B.length := by
 unfold dec at h
 obtain ⟨⟨c,l,z,a'⟩,h1,h⟩ := Option.bind_eq_some_iff.1 h
 have k := pars_le hp h1 ha
 split at h
 ·injection h with h
  subst h
  exact k.2.1
 ·cases h
section
variable {w : World} {pb qb dB a : Nat} {s : ByteArray} {aB : Option Addr} {B : Bits}
end
theorem Rws.call3 {α : Type} {w W : World} {wr : Option (Nat × Bits)} {rd : Option (Nat × ByteArray × Nat)} {f : FuncId} {args : Array Value} {P : α → Ending → World → Prop} {wr' : α → Option (Nat × Bits)} {rd' : α → Option (Nat × ByteArray × Nat)} {F : α → List (Nat × Obj)} : ∀ {rs : List Rw} {K : List (Nat × Obj)}, Rws w wr rd rs K W →
  (∀ Kx,FS w wr rd (Kx ++ K) W -> (∀ p ∈ Kx,∀ q ∈ K,p.1 ≠ q.1) -> Calls Tryz.prog f args W fun e w' => ∃ x,P x e w' /\ (∀ p ∈ F x,∀ q ∈ Kx,p.1 ≠ q.1) /\ FS w (wr' x) (rd' x) (Kx ++ F x) w') -> Calls Tryz.prog f args W fun e w' => ∃ x,P x e w' /\ Rws w (wr' x) (rd' x) rs (F x) w'
 | [],K,h,hc => (hc [] h (fun p hp => by cases hp)).mono (fun e w' ⟨x,p1,_,p3⟩ => ⟨x,p1,p3⟩)
 | r :: rs,K,⟨ka,h1,h2,h3,h4⟩,hc => by
  have f := h4.fs
  refine Calls.mono (Rws.call3 (wr' := wr') (rd' := rd') (F := fun x => ka ++ F x) (P := fun x e w' => P x e w' /\ ∀ p ∈ F x,∀ q ∈ ka,p.1 ≠ q.1) h4 (fun Kx hx hn => ?_)) ?_
  ·rw [<- List.append_assoc] at hx
   refine (hc _ hx (fun p hp q hq => ?_)).mono ?_
   ·rcases List.mem_append.1 hp with hp | hp
    ·exact hn p hp q (List.mem_append_right _ hq)
    ·exact fun e => h3 q hq (by rw [<- e]; exact h1.2 p hp)
   rintro e w' ⟨x,p1,p2,p3⟩
   refine ⟨x,⟨p1,fun p hp q hq => p2 p hp q (List.mem_append_right _ hq)⟩,fun p hp q hq => ?_,by rw [<- List.append_assoc]; exact p3⟩
   rcases List.mem_append.1 hp with hp | hp
   ·exact fun e => hn q hq p (List.mem_append_left _ hp) e.symm
   ·exact p2 p hp q (List.mem_append_left _ hq)
  ·rintro e w' ⟨x,⟨p1,p2⟩,p4⟩
   refine ⟨x,p1,ka,h1,Rw.same h2 h1 f p4.fs,fun p hp e => ?_,p4⟩
   obtain ⟨o,ho⟩ := h1.1 p.1 e.symm
   exact p2 p hp (p.1,o) ho rfl
section
variable {w W : World} {wr : Option (Nat × Bits)} {rd : Option (Nat × ByteArray × Nat)} {rb : Nat} {aB : Option Addr} {dB : Nat} {B : Bits} {p : Nat} {rs : List Rw} {K : List (Nat × Obj)}
theorem DRR.alone (h : DRR w wr rd rb aB dB B p rs K W) {Kx : List (Nat × Obj)} (f : FS w wr rd (Kx ++ ((rb, rdRow aB dB B p) :: K)) W) (hn : ∀ q ∈ Kx, ∀ q' ∈ (rb, rdRow aB dB B p) :: K, q.1 ≠ q'.1) : DRd w wr rd rb aB dB B p (Kx ++ K) W := by
 obtain ⟨-,h2,h3,h4⟩ := h
 refine ⟨f.sub (fun q hq => ?_),fun q hq => ?_,h3.more (fun q hq => List.mem_append_right _ hq),h4⟩
 ·simp only [List.mem_cons,List.mem_append] at hq ⊢
  rcases hq with hq | hq | hq
  ·exact .inr (.inl hq)
  ·exact .inl hq
  ·exact .inr (.inr hq)
 ·rcases List.mem_append.1 hq with hq | hq
  ·exact hn q hq (rb,_) (List.mem_cons_self ..)
  ·exact h2 q hq
theorem DRR.head (h : DRR w wr rd rb aB dB B p rs K W) (pr : Pr) (hp : pr.ok) :
  Calls Tryz.prog 13 #[.pointer (some ⟨rb,0,none⟩),parV (pr.win : Int) (pr.itv : Int) (pr.zet : Int)] W fun e w' => e = .returned (hrV (hread pr.win B p)) /\ DRR w wr rd rb aB dB B (hrA p (hread pr.win B p)) rs K w' := by
 have hb := h
 refine (Rws.call3 (α := Unit) (P := fun _ e w' => e = .returned (hrV (hread pr.win B p)) /\ hrA p (hread pr.win B p) <= B.length) (wr' := fun _ => wr) (rd' := fun _ => rd) (F := fun _ => (rb,rdRow aB dB B (hrA p (hread pr.win B p))) :: K) h.1 (fun Kx hx hn => ?_)).mono ?_
 ·refine (dhead_any (hb.alone hx hn) pr hp).mono ?_
  rintro e w' ⟨rfl,f⟩
  refine ⟨(),⟨rfl,f.2.2.2.1⟩,fun q hq q' hq' => ?_,f.1.sub (fun q hq => ?_)⟩
  ·rcases List.mem_cons.1 hq with rfl | hq
   ·exact fun e => hn q' hq' (rb,rdRow aB dB B p) (List.mem_cons_self ..) e.symm
   ·exact fun e => hn q' hq' q (List.mem_cons_of_mem _ hq) e.symm
  ·simp only [List.mem_cons,List.mem_append] at hq ⊢
   rcases hq with hq | hq | hq
   ·exact .inr (.inl hq)
   ·exact .inl hq
   ·exact .inr (.inr hq)
 ·rintro e w' ⟨_,⟨rfl,h1⟩,h2⟩
  exact ⟨rfl,h2,h.2.1,h.2.2.1,h1,h.2.2.2.2⟩
def DDecR (O : Option (List Nat × Nat)) (w : World) (wr : Option (Nat × Bits)) (rd : Option (Nat × ByteArray × Nat)) (rb : Nat) (aB : Option Addr) (dB : Nat) (B : Bits) (a : Nat) (rs : List Rw) (K : List (Nat × Obj)) (e : Ending) (w' : World) : Prop :=
 match O with
 | some q => ∃ v,e = .returned (.tuple #[v,.int .i64 0]) /\ DRR w wr rd rb aB dB B q.2 (⟨77,v,u32V q.1⟩ :: rs) K w'
 | none => e = .returned (.tuple #[.slice none 0 0,.int .i64 4]) /\ DRR w wr rd rb aB dB B a rs K w'
theorem DRR.dec (h : DRR w wr rd rb aB dB B p rs K W) (x n deg r : Nat) (pr : Pr) (hx0 : x < 65536) (hn : n ≤ 65536) (hd : deg ≤ 65536) (hr : r ≤ pr.win) (hp : pr.ok) (ar : Option Addr) (ref : List Nat) (cap : Nat) (hcap : ref.length ≤ cap) (hris : Ris ref) (hr0 : 0 < r ∨ ref = []) (hA : Seen w K ar ref) :
  Calls Tryz.prog 17 #[.pointer (some ⟨rb,0,none⟩),.int .i64 (x : Int),.int .i64 (n : Int),.agg #[.int .i64 (deg : Int),.int .i64 (r : Int)],.slice ar ref.length cap,parV (pr.win : Int) (pr.itv : Int) (pr.zet : Int)] W (DDecR (ls.dec B x n deg ref r pr p) w wr rd rb aB dB B p rs K) := by
 have hb := h
 cases ho : ls.dec B x n deg ref r pr p with
 | none =>
  refine (Rws.call3 (α := Unit) (P := fun _ e w' => e = .returned (.tuple #[.slice none 0 0,.int .i64 4])) (wr' := fun _ => wr) (rd' := fun _ => rd) (F := fun _ => (rb,rdRow aB dB B p) :: K) h.1 (fun Kx hx hnn => ?_)).mono ?_
  ·have c := ddec_any (hb.alone hx hnn) x n deg r pr hx0 hn hd hr hp ar ref cap hcap hris hr0 (hA.more (fun q hq => List.mem_append_right _ hq))
   rw [ho] at c
   refine c.mono ?_
   rintro e w' ⟨rfl,f⟩
   refine ⟨(),rfl,fun q hq q' hq' e => hnn q' hq' q hq e.symm,f.1.fs.sub (fun q hq => ?_)⟩
   simp only [List.mem_cons,List.mem_append] at hq ⊢
   rcases hq with hq | hq | hq
   ·exact .inr (.inl hq)
   ·exact .inl hq
   ·exact .inr (.inr hq)
  ·rintro e w' ⟨_,rfl,h2⟩
   exact ⟨rfl,h2,h.2⟩
 | some q =>
  refine (Rws.call3 (α := Value × List (Nat × Obj)) (P := fun x e w' => e = .returned (.tuple #[x.1,.int .i64 0]) /\ KA x.2 x.1 /\ Rw.owned ⟨77,x.1,u32V q.1⟩ w' /\ Off ((rb,rdRow aB dB B q.2) :: K) x.1 /\ q.2 <= B.length) (wr' := fun _ => wr) (rd' := fun _ => rd) (F := fun x => x.2 ++ ((rb,rdRow aB dB B q.2) :: K)) h.1 (fun Kx hx hnn => ?_)).mono ?_
  ·have c := ddec_any (hb.alone hx hnn) x n deg r pr hx0 hn hd hr hp ar ref cap hcap hris hr0 (hA.more (fun q hq => List.mem_append_right _ hq))
   rw [ho] at c
   refine c.mono ?_
   rintro e w' ⟨v,rfl,⟨ka,f1,f2,f3,f4⟩,f5,f6,f7,f8⟩
   refine ⟨(v,ka),⟨rfl,f1,f2,fun q' hq' => f3 q' ?_,f7⟩,fun q' hq' q2 hq2 => ?_,FS.sub f4 (fun q' hq' => ?_)⟩
   ·simp only [List.mem_cons,List.mem_append] at hq' ⊢
    rcases hq' with hq' | hq'
    ·exact .inl hq'
    ·exact .inr (.inr hq')
   ·rcases List.mem_append.1 hq' with hq' | hq'
    ·exact fun e => f3 q2 (List.mem_cons_of_mem _ (List.mem_append_left _ hq2)) (by rw [<- e]; exact f1.2 q' hq')
    ·rcases List.mem_cons.1 hq' with rfl | hq'
     ·exact fun e => hnn q2 hq2 (rb,rdRow aB dB B p) (List.mem_cons_self ..) e.symm
     ·exact fun e => hnn q2 hq2 q' (List.mem_cons_of_mem _ hq') e.symm
   ·simp only [List.mem_cons,List.mem_append] at hq' ⊢
    rcases hq' with hq' | hq' | hq' | hq'
    ·exact .inr (.inr (.inl hq'))
    ·exact .inl hq'
    ·exact .inr (.inl hq')
    ·exact .inr (.inr (.inr hq'))
  ·rintro e w' ⟨⟨v,ka⟩,⟨rfl,f1,f2,f3,f4⟩,h2⟩
   exact ⟨v,rfl,⟨ka,f1,f2,f3,h2⟩,h.2.1,h.2.2.1,f4,h.2.2.2.2⟩
end
def DBs (w : World) (rd : Option (Nat × ByteArray × Nat)) (rb : Nat) (aB : Option Addr) (dB : Nat) (B : Bits) (p : Nat) (T : List Tk) (vO vC vA : Value) (A : List Nat) (gs : List (Nat × Obj)) (V : List Value) (K : List (Nat × Obj)) (W : World) : Prop :=
 DRR w none rd rb aB dB B p [⟨34,vO,V⟩,⟨3,vC,chV T⟩,⟨97,vA,u64V A⟩] (gs ++ K) W /\ GRow gs V (T.map (·.1)) /\ ∀ q ∈ gs,∀ q' ∈ K,q.1 ≠ q'.1
section
variable {w W W2 : World} {rd : Option (Nat × ByteArray × Nat)} {rb : Nat} {aB : Option Addr} {dB : Nat} {B : Bits} {p : Nat} {T : List Tk} {vO vC vA : Value} {A : List Nat} {gs K : List (Nat × Obj)} {V : List Value} {rs : List Rw} {wr : Option (Nat × Bits)}
theorem DBs.next (h : DBs w rd rb aB dB B p T vO vC vA A gs V K W) (k : Below W.heap.size W W2) : DBs w rd rb aB dB B p T vO vC vA A gs V K W2 := ⟨h.1.next k, h.2⟩
theorem DBs.drew (h : DBs w rd rb aB dB B p T vO vC vA A gs V K W) : DBs w rd rb aB dB B p T vO vC vA A gs V K W.drew := h.next (Below.drew (Below.refl _ _))
theorem DRR.still2 {v : Value} {l : List Nat} (h : DRR w wr rd rb aB dB B p (⟨77, v, u32V l⟩ :: rs) K W) (hl : l.length ≤ 1000000) (hb : ∀ x ∈ l, x < 4294967296) :
  ∃ (ka : List (Nat × Obj)) (s : Option Addr) (d : Nat),v = .slice s l.length d /\ l.length <= d /\ Stands ka s l /\ (∀ q ∈ ka,∀ q' ∈ K,q.1 ≠ q'.1) /\ DRR w wr rd rb aB dB B p rs (ka ++ K) W := by
 have h0 := h
 obtain ⟨⟨ka,h1,h2,h3,h4⟩,h5,h7,h8⟩ := h
 unfold Rw.owned at h2
 dsimp only at h1 h2 h3
 rw [u32V_length] at h2
 obtain ⟨s,d,e1,e2,e3⟩ := h1.stands h2 hl hb (fun p hp => h4.has (List.mem_append_left _ hp))
 refine ⟨ka,s,d,e1,e2,e3,fun q hq q' hq' e => h3 q' (List.mem_cons_of_mem _ hq') (by rw [<- e]; exact h1.2 q hq),h4.sub (fun q hq => ?_),fun q hq => ?_,h7.more (fun q hq => List.mem_append_right _ hq),h8⟩
 ·simp only [List.mem_cons,List.mem_append] at hq ⊢
  rcases hq with hq | hq | hq
  ·exact .inr (.inl hq)
  ·exact .inl hq
  ·exact .inr (.inr hq)
 ·rcases List.mem_append.1 hq with hq | hq
  ·have hr := h1.2 q hq
   exact fun e => h3 (rb,_) (List.mem_cons_self ..) (by show some rb = _; rw [<- e]; exact hr)
  ·exact h5 q hq
theorem DBs.told {p' : Nat} {v : Value} {l : List Nat} (h : DBs w rd rb aB dB B p T vO vC vA A gs V K W) (h2 : DRR w none rd rb aB dB B p' (⟨77, v, u32V l⟩ :: [⟨34, vO, V⟩, ⟨3, vC, chV T⟩, ⟨97, vA, u64V A⟩]) (gs ++ K) W2) (hl : l.length ≤ 1000000) (hb : ∀ x ∈ l, x < 4294967296) :
  ∃ (gs' : List (Nat × Obj)) (s : Option Addr) (d : Nat),v = .slice s l.length d /\ l.length <= d /\ Stands gs' s l /\ DBs w rd rb aB dB B p' T vO vC vA A gs' V K W2 := by
 obtain ⟨ka,s,d,e1,e2,e3,e4,h3⟩ := h2.still2 hl hb
 refine ⟨ka ++ gs,s,d,e1,e2,e3.more (fun q hq => List.mem_append_left _ hq),by rw [List.append_assoc]; exact h3,h.2.1.more (fun q hq => List.mem_append_right _ hq),fun q hq q' hq' => ?_⟩
 rcases List.mem_append.1 hq with hq | hq
 ·exact e4 q hq q' (List.mem_append_right _ hq')
 ·exact h.2.2 q hq q' hq'
theorem DBs.add (h : DBs w rd rb aB dB B p T vO vC vA A gs V K W) (row : Array Value) (Tp : TypeId) : DBs w rd rb aB dB B p T vO vC vA A gs V ((W.heap.size, .cells row Tp (0, 0)) :: K) (W.alloc (.cells row Tp)) := by
 have old : ∀ q ∈ (rb,rdRow aB dB B p) :: (gs ++ K),q.1 < W.heap.size := fun q hq => lt_of_block (h.1.1.has hq)
 obtain ⟨⟨h1,h2,h3,h4⟩,h5,h6⟩ := h
 refine ⟨⟨(h1.add row Tp).sub (fun q hq => ?_),fun q hq => ?_,h3.more (fun q hq => ?_),h4⟩,h5,fun q hq q' hq' => ?_⟩
 ·simp only [List.mem_cons,List.mem_append] at hq ⊢
  rcases hq with hq | hq | hq | hq
  ·exact .inr (.inl hq)
  ·exact .inr (.inr (.inl hq))
  ·exact .inl hq
  ·exact .inr (.inr (.inr hq))
 ·rcases List.mem_append.1 hq with hq | hq
  ·exact h2 q (List.mem_append_left _ hq)
  ·rcases List.mem_cons.1 hq with rfl | hq
   ·have := old (rb,_) (List.mem_cons_self ..)
    show W.heap.size ≠ rb
    dsimp only at this
    omega
   ·exact h2 q (List.mem_append_right _ hq)
 ·rcases List.mem_append.1 hq with hq | hq
  ·exact List.mem_append_left _ hq
  ·exact List.mem_append_right _ (List.mem_cons_of_mem _ hq)
 ·rcases List.mem_cons.1 hq' with rfl | hq'
  ·have := old q (List.mem_cons_of_mem _ (List.mem_append_left _ hq))
   show q.1 ≠ W.heap.size
   omega
  ·exact h6 q hq q' hq'
theorem DBs.less {K' : List (Nat × Obj)} (h : DBs w rd rb aB dB B p T vO vC vA A gs V K W) (hs : ∀ q ∈ K', q ∈ K) (hB : BSt K' aB B) : DBs w rd rb aB dB B p T vO vC vA A gs V K' W :=
 ⟨h.1.less (fun q hq => (List.mem_append.1 hq).elim (fun hq => List.mem_append_left _ hq) (fun hq => List.mem_append_right _ (hs q hq))) (hB.more (fun _ hq => List.mem_append_right _ hq)),h.2.1,fun q hq q' hq' => h.2.2 q hq q' (hs q' hq')⟩
theorem DBs.start (h : DRd w none rd rb aB dB B p K W) : DBs w rd rb aB dB B p [] (.slice none 0 0) (.slice none 0 0) (.slice (some ⟨W.heap.size, 0, none⟩) 1 1) [0] [] [] K (W.alloc (.cells #[.int .u64 0] 97)) := by
 have h1 : Rws w none rd [] ((rb,rdRow aB dB B p) :: K) W := h.1
 have h2 := h1.fresh (v := .slice (some ⟨W.heap.size,0,none⟩) 1 1) (T := 97) (xs := u64V [0]) ((Below.refl _ _).alloc (Nat.le_refl _) (.cells #[.int .u64 0] 97)) ⟨rfl,.inr ⟨W.heap.size,1,_,rfl,Nat.le_refl _,heap_alloc_new W _,Nat.le_refl _,by decide,rfl,rfl⟩⟩
 exact ⟨⟨(h2.lift (T := 3)).lift (T := 34),h.2⟩,GRow.nil _,fun _ hq => by cases hq⟩
theorem DBs.moved {p' : Nat} (h : DBs w rd rb aB dB B p T vO vC vA A gs V K W) (h2 : DRR w none rd rb aB dB B p' [⟨34, vO, V⟩, ⟨3, vC, chV T⟩, ⟨97, vA, u64V A⟩] (gs ++ K) W2) : DBs w rd rb aB dB B p' T vO vC vA A gs V K W2 := ⟨h2, h.2⟩
theorem DBs.ownO (h : DBs w rd rb aB dB B p T vO vC vA A gs V K W) : W.ownsRow 0 34 1 vO V.length V := h.1.1.own
theorem DBs.ownC (h : DBs w rd rb aB dB B p T vO vC vA A gs V K W) : W.ownsRow 0 3 1 vC (chV T).length (chV T) := h.1.1.swap.own
theorem DBs.ownA (h : DBs w rd rb aB dB B p T vO vC vA A gs V K W) : W.ownsRow 0 97 1 vA A.length (u64V A) := by
 have h1 := (h.1.1.perm (rot3 _ _ _ _)).own
 unfold Rw.owned at h1
 dsimp only at h1
 rw [show (u64V A).length = A.length by unfold u64V; rw [List.length_map]] at h1
 exact h1
theorem DBs.pushO {vO' : Value} {l : List Nat} {s : Option Addr} {d : Nat} (h : DBs w rd rb aB dB B p T vO vC vA A gs V K W) (own : W2.ownsRow 0 34 1 vO' (V.length + 1) (V ++ [.slice s l.length d])) (hg : W.grownBy W2 vO.ownBlock) (hw : vO'.ownBlock = vO.ownBlock ∨ vO'.ownBlock = some W.heap.size) :
  DRR w none rd rb aB dB B p [⟨34,vO', V ++ [.slice s l.length d]⟩,⟨3,vC,chV T⟩,⟨97,vA,u64V A⟩] (gs ++ K) W2 :=
 ⟨h.1.1.push (by rw [List.length_append]; exact own) hg hw,h.1.2⟩
theorem DRR.pushC {r1 r3 : Rw} {v v' : Value} {xs : List Value} {x : Value} {Tp : TypeId} (h : DRR w wr rd rb aB dB B p [r1, ⟨Tp, v, xs⟩, r3] K W) (own : W2.ownsRow 0 Tp 1 v' (xs.length + 1) (xs ++ [x])) (hg : W.grownBy W2 v.ownBlock) (hw : v'.ownBlock = v.ownBlock ∨ v'.ownBlock = some W.heap.size) : DRR w wr rd rb aB dB B p [r1, ⟨Tp, v', xs ++ [x]⟩, r3] K W2 :=
 ⟨(h.1.swap.push (v' := v') (xs' := xs ++ [x]) (by rw [List.length_append]; exact own) hg hw).swap,h.2⟩
theorem DRR.pushA {r1 r2 : Rw} {v v' : Value} {xs : List Value} {x : Value} {Tp : TypeId} (h : DRR w wr rd rb aB dB B p [r1, r2, ⟨Tp, v, xs⟩] K W) (own : W2.ownsRow 0 Tp 1 v' (xs.length + 1) (xs ++ [x])) (hg : W.grownBy W2 v.ownBlock) (hw : v'.ownBlock = v.ownBlock ∨ v'.ownBlock = some W.heap.size) : DRR w wr rd rb aB dB B p [r1, r2, ⟨Tp, v', xs ++ [x]⟩] K W2 :=
 ⟨((h.1.perm (rot3 _ _ _ _)).push (v' := v') (xs' := xs ++ [x]) (by rw [List.length_append]; exact own) hg hw).perm (rot3 _ _ _ _).symm,h.2⟩
theorem DRR.own3 {r1 r2 r3 : Rw} (h : DRR w wr rd rb aB dB B p [r1, r2, r3] K W) : r1.owned W ∧ r2.owned W ∧ r3.owned W := ⟨h.1.own, h.1.swap.own, (h.1.perm (rot3 _ _ _ _)).own⟩
end
end Go.Proofs.YtflnpcgnenhogaaGreatDoor.ls
