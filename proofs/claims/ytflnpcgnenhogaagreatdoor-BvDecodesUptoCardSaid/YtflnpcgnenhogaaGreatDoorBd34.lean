/- Own lemmas, laid together. -/
import Derived.Test.YtflnpcgnenhogaaGreatDoorBd32
import Derived.Test.YtflnpcgnenhogaaGreatDoorBd33
import Derived.Test.YtflnpcgnenhogaaGreatDoorBd22
import Derived.Test.YtflnpcgnenhogaaGreatDoorBd31
import Derived.Deep.RegionLaw
namespace Go.Proofs.YtflnpcgnenhogaaGreatDoor.ls
open Go.RowKit Go.Proofs.YtflnpcgnenhogaaGreatDoor.own Go.Proofs.YtflnpcgnenhogaaGreatDoor.bit

def KS (w : World) (b : Bp) (T : List Tk) (wb E D : Nat) (l : Bits) (rd : Option (Nat × ByteArray × Nat)) (kb : Nat) (ls ks : List (Nat × Obj)) (W : World) : Prop :=
 ∃ row,FS w (some (wb,l)) rd ((kb,.cells row 129 (0,0)) :: (ls ++ ks)) W /\ (∀ p ∈ ls ++ ks,p.1 ≠ kb) /\ PackRow b T wb E D row ls
theorem own_stands {W : World} {base : Nat} {v : Value} {l : List Nat} (h : W.ownsRow base 77 1 v l.length (u32V l)) (hl : l.length ≤ 65536) (hb : ∀ x ∈ l, x < 4294967296) : ∃ (kv : List (Nat × Obj)) (s : Option Addr) (d : Nat), v = .slice s l.length d ∧ l.length ≤ d ∧ Stands kv s l ∧ ∀ p ∈ kv, base ≤ p.1 ∧ W.heap[p.1]? = some p.2 := by
 rcases h.2 with ⟨rfl,h0⟩ | ⟨g,cap,cur,rfl,hbg,hg,hn,_,_,htake⟩
 ·have hl0 : l = [] := List.eq_nil_of_length_eq_zero h0
  subst hl0
  exact ⟨[],none,0,rfl,Nat.le_refl _,fun W _ => LV.nil,fun p hp => by cases hp⟩
 ·refine ⟨[(g,.cells cur 77 (0,0))],_,cap,rfl,hn,fun W' hW' => ⟨by omega,fun i hi => ?_⟩,fun p hp => by rw [List.mem_singleton.1 hp]; exact ⟨hbg,hg⟩⟩
  have hr := hW' _ (List.mem_singleton.2 rfl)
  refine ⟨g,0,rfl,lt_of_block hr,?_,hb _ (List.getElem_mem hi)⟩
  have hx : (u32V l)[i]? = some (.int .u32 (l[i] : Int)) := by unfold u32V; rw [List.getElem?_map,List.getElem?_eq_getElem hi]; rfl
  rw [<- htake,List.getElem?_take_of_lt (by omega)] at hx
  rw [Nat.zero_add,cell_of_row _ _ _ _ _ _ hr,<- Array.getElem?_toList]
  exact hx
theorem wp_append_lv {P : Program} (w : World) {o : Oper} {a : Act} {K : Act → World → Prop} {Q : Exit → Act → World → Prop} {c : Bool} {E : Prop} (hc : c = true) (s x : Operand) (t : TypeId)
  (ho : o.op = .call { callee := .builtin .append,args := #[s,x],argTypes := #[t,t] })
  (base : Nat) (e : TypeId) (i : TypeInfo) (z : Value) (bytes : Nat) (ht : P.underlying t = some (.slice e)) (hi : P.info? e = some i) (hz : i.zero = some z)
  (hsize : i.size = 1) (hby : i.bytes = bytes) (hzs : z.cells.size = 1)
  (v : Value) (n : Nat) (xs : List Value) (hs : a.eval s = v) (hown : w.ownsRow base e 1 v n xs) (ao : Option Addr) (m cc : Nat) (l : List Nat) (hx : a.eval x = .slice ao m cc) (hm : l.length = m) (hLV : LV w ao l)
  (h63 : n + m <= maxLen) (hbytes : (n + m) * bytes <= 140737488355328) (hbase : base <= w.heap.size)
  (h : ∀ v' w', w'.ownsRow base e 1 v' (n + m) (xs ++ u32V l) -> w.grownBy w' v.ownBlock -> (v'.ownBlock = v.ownBlock \/ v'.ownBlock = some w.heap.size) -> K (a.put o.dst v') w') :
  if c = true then Oper.wp P o a w K Q else E := by
 rw [if_pos hc]
 by_cases h0 : 0 < m
 ·obtain ⟨g,of,rfl⟩ := hLV.addr (by omega)
  have hcl := hLV.cells m
  rw [List.take_of_length_le (by omega)] at hcl
  have hl : (u32V l).length = m * 1 := by rw [u32V,List.length_map,hm,Nat.mul_one]
  obtain ⟨v', w', hr,h2,h3,_⟩ := run_append_own (P := P) w base t o.type e i z 1 bytes ht hi hz hsize hby hzs (by decide) v n xs hown ⟨g,of,none⟩ m cc (u32V l) hl hcl (u32_one l) h63 hbytes hbase
  have h4 := append_where w base t o.type e i z 1 bytes ht hi hz hsize hby v n xs hown ⟨g,of,none⟩ m cc (u32V l) hl hcl (u32_one l) h63 hbytes h0 hr
  unfold Oper.wp execOp
  simp only [ho,resolve,invoke,builtin,Sem.run_bind,Sem.run_pure,Result.andThen_ok,List.map_toArray,List.map_cons,List.map_nil,hs,hx,hr]
  exact h v' w' h2 h3 h4
 ·obtain rfl : m = 0 := by omega
  obtain rfl : l = [] := List.eq_nil_of_length_eq_zero hm
  obtain ⟨av,cv,hv,hle⟩ := own_slice hown
  have hsrc : Src P i.size t (.slice ao 0 cc) 0 [] w := by
   cases ao with
   | none => exact Src.ofNil w ht cc
   | some ad => exact Src.ofSlice w ht _ 0 cc [] (by simp) (fun j u hu => by simp at hu) (fun u hu => by cases hu)
  have hr := run_append_nothing (P := P) w t t o.type e i ht hi av n cv hle (.slice ao 0 cc) hsrc
  unfold Oper.wp execOp
  subst hv
  simp only [ho,resolve,invoke,builtin,Sem.run_bind,Sem.run_pure,Result.andThen_ok,List.map_toArray,List.map_cons,List.map_nil,hs,hx,hr]
  refine h _ _ ?_ ⟨rfl,rfl,rfl,Nat.le_refl _,fun _ _ _ => rfl⟩ (.inl rfl)
  show w.ownsRow base e 1 _ (n + 0) (xs ++ [])
  rw [List.append_nil]
  exact hown
theorem Ring.agree {T : List Tk} {row row' : Array Value} {o : Nat} {ls : List (Nat × Obj)} (h : Ring T row o ls) (hs : row'.size = row.size) (he : ∀ j, o ≤ j → j < o + 35 → row'[j]? = row[j]?) : Ring T row' o ls := by
 obtain ⟨h1,h2,h3,h4⟩ := h
 refine ⟨by rw [hs]; exact h1,by rw [he _ (by omega) (by omega)]; exact h2,fun k hk => ?_,fun j hj hl => ?_⟩
 ·rw [he _ (by omega) (by omega),he _ (by omega) (by omega)]; exact h3 k hk
 ·rw [he _ (by omega) (by omega),he _ (by omega) (by omega)]; exact h4 j hj hl
theorem PackRow.put {b : Bp} {T : List Tk} {wb E D : Nat} {row : Array Value} {ls ls' : List (Nat × Obj)} (h : PackRow b T wb E D row ls) (t : Tk) (s : Option Addr) (d E' : Nat) (hd : t.1.length ≤ d) (hst : Stands ls' s t.1) (hls : ∀ p ∈ ls, p ∈ ls') :
  PackRow b (T ++ [t]) wb E' D ((putRow row 5 T.length (.slice s t.1.length d) (t.2 : Int)).setIfInBounds 41 (.int .i64 (E' : Int))) ls' := by
 have hz := h.size
 have hps : (putRow row 5 T.length (.slice s t.1.length d) (t.2 : Int)).size = 43 := by rw [putRow_size,hz]
 have low : ∀ j,j < 5 -> ((putRow row 5 T.length (.slice s t.1.length d) (t.2 : Int)).setIfInBounds 41 (.int .i64 (E' : Int)))[j]? = row[j]? := fun j hj => by
  rw [Array.getElem?_setIfInBounds_ne (by omega),putRow_get _ (by omega),if_neg (by omega),if_neg (by omega),if_neg (by omega)]
 have high : ∀ j,40 <= j -> j < 43 -> j ≠ 41 -> ((putRow row 5 T.length (.slice s t.1.length d) (t.2 : Int)).setIfInBounds 41 (.int .i64 (E' : Int)))[j]? = row[j]? := fun j h1 h2 h3 => by
  rw [Array.getElem?_setIfInBounds_ne (by omega),putRow_get _ (by omega),if_neg (by omega),if_neg (by omega),if_neg (by omega)]
 exact ⟨by rw [Array.size_setIfInBounds,hps],by rw [low _ (by decide)]; exact h.p0,by rw [low _ (by decide)]; exact h.p1,by rw [low _ (by decide)]; exact h.p2,by rw [low _ (by decide)]; exact h.p3,by rw [low _ (by decide)]; exact h.p4,
  ((h.ring.more hls).put t s d hd hst).agree (by rw [Array.size_setIfInBounds]) (fun j h1 h2 => by rw [Array.getElem?_setIfInBounds_ne (by omega)]),
  by rw [high _ (by decide) (by decide) (by decide)]; exact h.w,by rw [Array.getElem?_setIfInBounds_self_of_lt (by omega)],by rw [high _ (by decide) (by decide) (by decide)]; exact h.d⟩
theorem TryS.enc {w W : World} {b : Bp} {T : List Tk} {wb E D : Nat} {l : Bits} {rd : Option (Nat × ByteArray × Nat)} {kb : Nat} {row : Array Value} {ls : List (Nat × Obj)} {bk bs bx bl br bb : Nat} {sv lv rv v u : Value} {K : List (Nat × Obj)} (h : TryS w b T wb E D l rd kb row ls bk bs bx bl br bb sv lv rv v u K W)
  (hG : GL w) (p : Pr) (x : Nat) (a : Option Addr) (succ : List Nat) (cap : Nat) (c : Option Addr) (ref : List Nat) (capb r : Nat) (hc : succ.length <= cap) (hcb : ref.length <= capb) (hm : MayN x succ ref r p) (hA : LV W a succ) (hB : LV W c ref) (hl : l.length + (lay x succ ref r p).length <= 134217728) :
  Calls Tryz.prog 59 #[.pointer (some ⟨wb,0,none⟩),.int .i64 (x : Int),.slice a succ.length cap,.slice c ref.length capb,.int .i64 (r : Int),parV (p.win : Int) (p.itv : Int) (p.zet : Int)] W fun e w' =>
   e = .returned (.int .i64 0) /\ TryS w b T wb E D (l ++ lay x succ ref r p) rd kb row ls bk bs bx bl br bb sv lv rv v u K w' := by
 have kb' := h.fs.below
 obtain ⟨y,hf,hw,hr,hk⟩ := h.fs
 refine (lenc_yes y 0 1 2 (by decide) (by decide) (by decide) p x W (hG.below kb') wb l a succ cap c ref capb r hc hcb hm hA hB hl (hw _ rfl)).mono ?_
 rintro e w' ⟨rfl,x', f2,hw2⟩
 exact ⟨rfl,⟨x', hf.trans (f2.mono (fun c hc => by show c < 50; omega)),fun q e => by cases e; exact hw2,fun q e => rdc_frame (hr q e) f2 (by decide),rows_frame hk f2 (by decide)⟩,h.k,h.kk,h.ks,h.kx,h.kl,h.ne,h.row⟩
theorem TryS.cells2 {w W : World} {b : Bp} {T : List Tk} {wb E D : Nat} {l : Bits} {rd : Option (Nat × ByteArray × Nat)} {kb : Nat} {row : Array Value} {ls : List (Nat × Obj)} {bk bs bx bl br bb : Nat} {sv lv rv v u : Value} {K : List (Nat × Obj)} (h : TryS w b T wb E D l rd kb row ls bk bs bx bl br bb sv lv rv v u K W) :
  W.cell? ⟨kb,40,none⟩ = some (.pointer (some ⟨wb,0,none⟩)) /\ W.cell? ⟨bb,0,none⟩ = some v /\ W.cell? ⟨bb,1,none⟩ = some u /\ W.cell? ⟨kb,41,none⟩ = some (.int .i64 (E : Int)) := by
 have r3 := h.fs.row (List.mem_cons_of_mem _ (List.mem_cons_of_mem _ (List.mem_cons_self ..)))
 exact ⟨by rw [cell_of_row _ _ _ _ _ _ (h.has h.k)]; exact h.row.w,by rw [cell_of_row _ _ _ _ _ _ r3]; rfl,by rw [cell_of_row _ _ _ _ _ _ r3]; rfl,by rw [cell_of_row _ _ _ _ _ _ (h.has h.k)]; exact h.row.e⟩
def AddP (w : World) (N : Nat) (b : Bp) (T : List Tk) (wb E D : Nat) (l : Bits) (rd : Option (Nat × ByteArray × Nat)) (kb : Nat) (succ : List Nat) (ls ks : List (Nat × Obj)) (e : Ending) (w' : World) : Prop :=
 e = .returned (.tuple #[.int .i64 ((pickB b T succ).2.1 : Int),.int .i64 ((pickB b T succ).1 : Int),.int .i64 0]) /\ ∃ ls', KS w b (T ++ [putB b T succ]) wb (E + succ.length) D (l ++ addB b T succ) rd kb ls' ks w' /\ ∀ p ∈ ls', p ∈ ls \/ N <= p.1
set_option maxRecDepth 100000 in
set_option maxHeartbeats 12800000 in
theorem add_yes {w W : World} {b : Bp} {T : List Tk} {wb E D : Nat} {l : Bits} {rd : Option (Nat × ByteArray × Nat)} {kb : Nat} {ls ks : List (Nat × Obj)} {a : Option Addr} {succ : List Nat} {cap : Nat}
  (h : KS w b T wb E D l rd kb ls ks W) (hG : GL w) (hb : b.p.ok) (hdp : b.depth <= 16) (hx : T.length < 65536) (hs : Ris succ) (hT : TOk T) (hc : succ.length <= cap) (hA : Seen w ks a succ) (hE : E + succ.length <= 1048576) (hl : l.length + (addB b T succ).length <= 134217728) :
  Calls Tryz.prog 37 #[.pointer (some ⟨kb,0,none⟩),.slice a succ.length cap] W (AddP w W.heap.size b T wb E D l rd kb succ ls ks) := by
 obtain ⟨row,hF,hne,hR⟩ := h
 have hs9 := hs.len
 have HF := Lib.hid hF
 have HNE := Lib.hid hne
 have HR := Lib.hid hR
 have HS := Lib.hid hs
 have HTO := Lib.hid hT
 have HAS := Lib.hid hA
 obtain ⟨n,hn⟩ : ∃ n,succ.length = n := ⟨_,rfl⟩
 have HN := Lib.hid hn
 obtain ⟨nt,hnt⟩ : ∃ n,T.length = n := ⟨_,rfl⟩
 have HNT := Lib.hid hnt
 rw [hn] at hc hE hs9 ⊢
 rw [hnt] at hx
 have RK : Hid (∀ W' : World,W'.heap[kb]? = some (.cells row 129 (0,0)) -> W'.cell? ⟨kb,39,none⟩ = some (.int .i64 (nt : Int)) /\ W'.cell? ⟨kb,41,none⟩ = some (.int .i64 (E : Int)) /\ W'.cell? ⟨kb,40,none⟩ = some (.pointer (some ⟨wb,0,none⟩)) /\
   W'.cell? ⟨kb,0,none⟩ = some (.int .i64 (b.p.win : Int)) /\ W'.cell? ⟨kb,1,none⟩ = some (.int .i64 (b.depth : Int)) /\ W'.cell? ⟨kb,2,none⟩ = some (.int .i64 (b.p.itv : Int)) /\ W'.cell? ⟨kb,3,none⟩ = some (.int .i64 (b.p.zet : Int)) /\ W'.cell? ⟨kb,4,none⟩ = some (.int .i64 (b.cap : Int))) := Lib.hid (fun W' hW => by
  have e := fun j => cell_of_row W' kb j row 129 (0,0) hW
  exact ⟨by rw [e,<- hnt]; exact hR.ring.2.1,by rw [e]; exact hR.e,by rw [e]; exact hR.w,by rw [e]; exact hR.p0,by rw [e]; exact hR.p1,by rw [e]; exact hR.p2,by rw [e]; exact hR.p3,by rw [e]; exact hR.p4⟩)
 clear hF hne hR hn hnt hs hT hA
 go_enter Tryz.func37,Tryz.ntmps37
 go_upto_region 1 with fail
 generalize hW : World.alloc (World.alloc (World.alloc W _) _) _ = W1
 obtain ⟨r1,r2,r3,k1⟩ := rows3 hW
 obtain ⟨K1,hK1⟩ : ∃ K,[(W.heap.size + 1 + 1,Obj.cells #[.int .i64 0] 3 (0,0)),(W.heap.size + 1,Obj.cells #[.slice a n cap] 34 (0,0)),(W.heap.size,Obj.cells #[.pointer (some ⟨kb,0,none⟩)] 79 (0,0))] ++ ((kb,.cells row 129 (0,0)) :: (ls ++ ks)) = K := ⟨_,rfl⟩
 have F1 : Hid (FS w (some (wb,l)) rd K1 W1) := Lib.hid (by
  rw [<- hK1]
  refine HF.out.more k1 (fun p hp => ?_)
  simp only [List.mem_cons,List.not_mem_nil,or_false] at hp
  rcases hp with rfl | rfl | rfl
  ·exact ⟨Nat.le_add_right _ 2,r3⟩
  ·exact ⟨Nat.le_add_right _ 1,r2⟩
  ·exact ⟨Nat.le_refl _,r1⟩)
 have c1 : W1.cell? ⟨W.heap.size,0,none⟩ = some (.pointer (some ⟨kb,0,none⟩)) := by rw [cell_of_row _ _ _ _ _ _ r1]; rfl
 obtain ⟨d1,d2,d3,p0,p1,p2,p3,p4⟩ := RK.out W1 ((k1.block _ (lt_of_block (HF.out.row (List.mem_cons_self ..)))).trans (HF.out.row (List.mem_cons_self ..)))
 have i1 : decide ((65536 : Int) <= (nt : Int)) = false := decide_eq_false (by omega)
 clear hW r1 r2 r3 k1
 go_wp2_with fail
 have F2 := Lib.hid (F1.out.add #[.int .i64 (nt : Int)] 3)
 obtain ⟨bx,hbx⟩ : ∃ z,W1.heap.size = z := ⟨_,rfl⟩
 rw [hbx] at F2 ⊢
 obtain ⟨K2,hK2⟩ : ∃ K,(bx,Obj.cells #[.int .i64 (nt : Int)] 3 (0,0)) :: K1 = K := ⟨_,rfl⟩
 rw [hK2] at F2
 generalize World.alloc W1 _ = W2 at F2 ⊢
 have mK : Hid ((kb,Obj.cells row 129 (0,0)) ∈ K2) := Lib.hid (by rw [<- hK2,<- hK1]; simp)
 have mk : Hid ((W.heap.size,Obj.cells #[.pointer (some ⟨kb,0,none⟩)] 79 (0,0)) ∈ K2) := Lib.hid (by rw [<- hK2,<- hK1]; simp)
 have ms : Hid ((W.heap.size + 1,Obj.cells #[.slice a n cap] 34 (0,0)) ∈ K2) := Lib.hid (by rw [<- hK2,<- hK1]; simp)
 have mr : Hid ((W.heap.size + 1 + 1,Obj.cells #[.int .i64 0] 3 (0,0)) ∈ K2) := Lib.hid (by rw [<- hK2,<- hK1]; simp)
 have mx : Hid ((bx,Obj.cells #[.int .i64 (nt : Int)] 3 (0,0)) ∈ K2) := Lib.hid (by rw [<- hK2]; simp)
 have ml : Hid (∀ p ∈ ls,p ∈ K2) := Lib.hid (fun p hp => by rw [<- hK2,<- hK1]; simp [hp])
 have mks : Hid (∀ p ∈ ks,p ∈ K2) := Lib.hid (fun p hp => by rw [<- hK2,<- hK1]; simp [hp])
 have HLT : Hid (∀ q ∈ (kb,Obj.cells row 129 (0,0)) :: (ls ++ ks),q.1 < W.heap.size) := Lib.hid (fun q hq => lt_of_block (HF.out.row (b := q.1) (o := q.2) hq))
 have HBX : Hid (W.heap.size + 1 + 1 < bx) := Lib.hid (by
  rw [<- hbx]
  exact lt_of_block (F1.out.row (b := W.heap.size + 1 + 1) (o := Obj.cells #[.int .i64 0] 3 (0,0)) (by rw [<- hK1]; simp)))
 obtain ⟨bk,hbk⟩ : ∃ z,W.heap.size = z := ⟨_,rfl⟩
 have HBK := Lib.hid hbk
 rw [hbk] at mk ms mr HLT HBX ⊢
 obtain ⟨bs,hbs⟩ : ∃ z,bk + 1 = z := ⟨_,rfl⟩
 obtain ⟨br,hbr⟩ : ∃ z,bs + 1 = z := ⟨_,rfl⟩
 have HB : Hid (bk + 1 = bs /\ bs + 1 = br) := Lib.hid ⟨hbs,hbr⟩
 rw [hbs] at ms mr HBX ⊢
 rw [hbr] at mr HBX ⊢
 clear hbx hK2 hK1 hbk hbs hbr c1 d1 d2 d3 p0 p1 p2 p3 p4 F1
 have CK : Hid (∀ W', Below W2.heap.size W2 W' -> W'.cell? ⟨bx,0,none⟩ = some (.int .i64 (nt : Int)) /\ W'.cell? ⟨bs,0,none⟩ = some (.slice a n cap) /\ W'.cell? ⟨bk,0,none⟩ = some (.pointer (some ⟨kb,0,none⟩)) /\ W'.cell? ⟨kb,0,none⟩ = some (.int .i64 (b.p.win : Int)) /\ W'.cell? ⟨kb,1,none⟩ = some (.int .i64 (b.depth : Int)) /\ W'.cell? ⟨kb,2,none⟩ = some (.int .i64 (b.p.itv : Int)) /\ W'.cell? ⟨kb,3,none⟩ = some (.int .i64 (b.p.zet : Int)) /\ W'.cell? ⟨kb,4,none⟩ = some (.int .i64 (b.cap : Int)) /\ Below W2.heap.size W2 W') := Lib.hid (fun W' k => by
  have hr : ∀ q : Nat × Obj,q ∈ K2 -> W'.heap[q.1]? = some q.2 := fun q hq => (k.block _ (lt_of_block (F2.out.row (b := q.1) (o := q.2) hq))).trans (F2.out.row (b := q.1) (o := q.2) hq)
  obtain ⟨e1,e2,e3,e4,e5,e6,e7,e8⟩ := RK.out W' (hr _ mK.out)
  exact ⟨by rw [cell_of_row _ _ _ _ _ _ (hr _ mx.out)]; rfl,by rw [cell_of_row _ _ _ _ _ _ (hr _ ms.out)]; rfl,by rw [cell_of_row _ _ _ _ _ _ (hr _ mk.out)]; rfl,e4,e5,e6,e7,e8,k⟩)
 have LVS : Hid (∀ W', Below W2.heap.size W2 W' -> LV W' a succ) := Lib.hid (fun W' k => HAS.out W' (F2.out.below.trans (k.mono F2.out.below.size)) (fun q hq => (k.block _ (lt_of_block (F2.out.row (b := q.1) (o := q.2) (mks.out q hq)))).trans (F2.out.row (b := q.1) (o := q.2) (mks.out q hq))))
 obtain ⟨n0,hn0⟩ : ∃ z,(lay T.length succ [] 0 b.p).length = z := ⟨_,rfl⟩
 have HN0 := Lib.hid hn0
 have BI : Hid (∀ W', Below W2.heap.size W2 W' -> Calls Tryz.prog 66 #[.int .i64 (nt : Int),.slice a n cap,.slice none 0 0,.int .i64 0,.agg #[.int .i64 (b.p.win : Int),.int .i64 (b.p.itv : Int),.int .i64 (b.p.zet : Int)]] W' fun e w' => e = .returned (.tuple #[.int .i64 (n0 : Int),.int .i64 0]) /\ Below W'.heap.size W' w') := Lib.hid (fun W' k => by
  have h1 := lbits_yes b.p T.length W' (hG.below (F2.out.below.trans (k.mono F2.out.below.size))) a succ cap none [] 0 0 (by rw [HN.out]; exact hc) (Nat.le_refl _) (plain_may hb (by rw [HNT.out]; exact hx) HS.out) (LVS.out W' k) LV.nil
  rw [HN.out,hn0,HNT.out] at h1
  exact h1)
 have BL := Lib.hid (fun W' => blist_any (b.p.win : Int) (b.depth : Int) (b.p.itv : Int) (b.p.zet : Int) (b.cap : Int) W')
 unfold bpV parV at BL
 have KX : Hid (∀ W' W'', Below W2.heap.size W2 W' -> Below W'.heap.size W' W'' -> Below W2.heap.size W2 W'') := Lib.hid (fun W' W'' h k => h.trans (k.mono h.size))
 have KB : Hid (∀ W' o,Below W2.heap.size W2 W' -> Below W2.heap.size W2 (W'.alloc o)) := Lib.hid (fun W' o k => k.alloc k.size _)
 have KS1 : Hid (∀ W' g u1,W2.heap.size <= g -> Below W2.heap.size W2 W' -> Below W2.heap.size W2 (W'.setCell ⟨g,0,none⟩ u1)) := Lib.hid (fun W' g u1 h k => k.setCell h _)
 have FN : Hid (∀ W' g,W2.heap.size <= g -> Below W2.heap.size W2 W' -> W'.heap[g]? = some (.cells #[.int .i64 (n0 : Int)] 3 (0,0)) -> FS w (some (wb,l)) rd ((g,.cells #[.int .i64 (n0 : Int)] 3 (0,0)) :: K2) W' /\ W2.heap.size <= g /\ Below W2.heap.size W2 W') := Lib.hid (fun W' g h k hr => ⟨F2.out.more (js := [(g,.cells #[.int .i64 (n0 : Int)] 3 (0,0))]) k (fun p hp => by rw [List.mem_singleton.1 hp]; exact ⟨h,hr⟩),h,k⟩)
 have NR : Hid (∀ (W' : World) (g : Nat),W'.heap[g]? = some (.cells #[.int .i64 0] 3 (0,0)) -> W'.cell? ⟨g,0,none⟩ = some (.int .i64 0) /\ W'.frozen? ⟨g,0,none⟩ = false) := Lib.hid (fun W' g h => ⟨by rw [cell_of_row _ _ _ _ _ _ h]; rfl,frozen_of_row W' g 0 _ _ h⟩)
 have NB : Hid (∀ W' : World,(W'.alloc (.cells #[.int .i64 0] 3)).cell? ⟨W'.heap.size,0,none⟩ = some (.int .i64 0) /\ (W'.alloc (.cells #[.int .i64 0] 3)).frozen? ⟨W'.heap.size,0,none⟩ = false) := Lib.hid (fun W' => NR.out _ _ (heap_alloc_new W' _))
 obtain ⟨c1,c2,c3,p0,p1,p2,p3,p4,-⟩ := CK.out W2 (Below.refl _ _)
 clear hn0 i1
 go_cut [6,8] from 29 to 39 (fun v6 v8 wc => ∃ bl,v6 = .int .i64 0 /\ v8 = .pointer (some ⟨bl,0,none⟩) /\ FS w (some (wb,l)) rd ((bl,.cells #[.int .i64 (n0 : Int)] 3 (0,0)) :: K2) wc /\ W2.heap.size <= bl /\ Below W2.heap.size W2 wc)
 case first =>
  have K0 := Below.refl W2.heap.size W2
  go_region_held3 (fun W' => W'.cell? ⟨bx,0,none⟩ = some (.int .i64 (nt : Int)) /\ W'.cell? ⟨bs,0,none⟩ = some (.slice a n cap) /\ W'.cell? ⟨bk,0,none⟩ = some (.pointer (some ⟨kb,0,none⟩)) /\ W'.cell? ⟨kb,0,none⟩ = some (.int .i64 (b.p.win : Int)) /\ W'.cell? ⟨kb,1,none⟩ = some (.int .i64 (b.depth : Int)) /\ W'.cell? ⟨kb,2,none⟩ = some (.int .i64 (b.p.itv : Int)) /\ W'.cell? ⟨kb,3,none⟩ = some (.int .i64 (b.p.zet : Int)) /\ W'.cell? ⟨kb,4,none⟩ = some (.int .i64 (b.cap : Int)) /\ Below W2.heap.size W2 W')
   (first
    | exact CK.out _ (by assumption)
    | exact CK.out _ (Below.drew (by assumption))
    | exact CK.out _ (KB.out _ _ (by assumption))
    | exact CK.out _ (Below.drew (KB.out _ _ (by assumption)))
    | exact CK.out _ (KS1.out _ _ _ (Nat.le_refl _) k8)
    | exact CK.out _ (KS1.out _ _ _ k6.size k8))
   (first
    | (go_at_call 26; (with_reducible refine (BL.out _).mono ?_); rintro e w5 ⟨rfl,k5⟩; have k6 := (by first | exact KX.out _ _ (by assumption) k5 | exact KX.out _ _ (Below.drew (by assumption)) k5 | exact KX.out _ _ (Below.drew (KB.out _ _ (by assumption))) k5 | exact KX.out _ _ (KB.out _ _ (by assumption)) k5 : Below W2.heap.size W2 w5); (try (have rA : w5.heap[W2.heap.size]? = some (.cells #[.int .i64 0] 3 (0,0)) := (k5.block _ (by simp)).trans (heap_alloc_new W2 _))))
    | (go_at_call 66; (with_reducible refine (BI.out _ (by first | exact k6 | exact Below.drew k6 | exact KB.out _ _ k6 | exact Below.drew (KB.out _ _ k6))).mono ?_); rintro e w6 ⟨rfl,k7⟩; have k8 := (by first | exact KX.out _ _ k6 k7 | exact KX.out _ _ (Below.drew k6) k7 | exact KX.out _ _ (KB.out _ _ k6) k7 | exact KX.out _ _ (Below.drew (KB.out _ _ k6)) k7 : Below W2.heap.size W2 w6); have nb := NB.out w6; obtain ⟨nb1,nb2⟩ := nb; (try (have rB : w6.heap[W2.heap.size]? = some (.cells #[.int .i64 0] 3 (0,0)) := (k7.block _ (lt_of_block rA)).trans rA; obtain ⟨ra1,ra2⟩ := NR.out _ _ rB)); (try (have rC : w6.heap[w5.heap.size]? = some (.cells #[.int .i64 0] 3 (0,0)) := (k7.block _ (by simp)).trans (heap_alloc_new w5 _); obtain ⟨rc1,rc2⟩ := NR.out _ _ rC))))
  all_goals
   go_wp2_with fail
   refine Met.intro ?_
   apply_assumption
   (repeat apply Exists.intro)
   refine ⟨?_,rfl⟩
   first
    | exact ⟨_,rfl,rfl,FN.out _ _ k8.size (KB.out _ _ k8) (heap_alloc_new w6 _)⟩
    | exact ⟨_,rfl,rfl,FN.out _ _ (Nat.le_refl _) (KS1.out _ _ _ (Nat.le_refl _) k8) (heap_setCell_same w6 _ 0 _ _ _ rB)⟩
    | exact ⟨_,rfl,rfl,FN.out _ _ k6.size (KS1.out _ _ _ k6.size k8) (heap_setCell_same w6 _ 0 _ _ _ rC)⟩
 case rest =>
  obtain ⟨bl,rfl,rfl,hF3,hbl,hk3⟩ := hcut
  have F3 := Lib.hid hF3
  have K3 := Lib.hid (And.intro hbl hk3)
  clear hF3 hbl hk3 BI FN NB NR KS1 c1 c2 c3 p0 p1 p2 p3 p4
  obtain ⟨c1,c2,c3,p0,p1,p2,p3,p4,-⟩ := CK.out wc K3.out.2
  obtain ⟨-,d2,d3,-⟩ := RK.out wc (F3.out.row (List.mem_cons_of_mem _ mK.out))
  have i2 : decide ((1048576 : Int) < (E : Int) + (n : Int)) = false := decide_eq_false (by omega)
  go_upto_region 9 with fail
  go_big_region
  go_upto_region 13 with fail
  obtain ⟨K5,hK5⟩ : ∃ K,(bx,Obj.cells #[.int .i64 (nt : Int)] 3 (0,0)) :: (bs,Obj.cells #[.slice a n cap] 34 (0,0)) :: (bk,Obj.cells #[.pointer (some ⟨kb,0,none⟩)] 79 (0,0)) :: (kb,Obj.cells row 129 (0,0)) :: (ls ++ ks) = K := ⟨_,rfl⟩
  have HSUB : Hid (∀ p ∈ K5,p ∈ K2) := Lib.hid (fun p hp => by
   rw [<- hK5] at hp
   simp only [List.mem_cons,List.mem_append] at hp
   rcases hp with rfl | rfl | rfl | rfl | h | h
   ·exact mx.out
   ·exact ms.out
   ·exact mk.out
   ·exact mK.out
   ·exact ml.out p h
   ·exact mks.out p h)
  have HNB : Hid (∀ p ∈ K5,p.1 ≠ br) := Lib.hid (fun p hp => by
   have h1 := HB.out
   have h2 := HBX.out
   rw [<- hK5] at hp
   simp only [List.mem_cons] at hp
   rcases hp with rfl | rfl | rfl | h
   ·show bx ≠ br; omega
   ·show bs ≠ br; omega
   ·show bk ≠ br; omega
   ·have := HLT.out p (by simpa using h)
    omega)
  have hK2lt : ∀ p ∈ K2,p.1 < W2.heap.size := fun p hp => lt_of_block (F2.out.row (b := p.1) (o := p.2) hp)
  have F4 := F3.out.add #[.slice none 0 0,.int .i64 0] 123
  obtain ⟨bb,hbb⟩ : ∃ z,wc.heap.size = z := ⟨_,rfl⟩
  have hblb : bl < bb := by rw [<- hbb]; exact lt_of_block (F3.out.row (List.mem_cons_self ..))
  have hszb : W2.heap.size <= bb := by rw [<- hbb]; exact K3.out.2.size
  rw [hbb] at F4 ⊢
  have TS : Hid (TryS w b T wb E D l rd kb row ls bk bs bx bl br bb (.slice a n cap) (.int .i64 (n0 : Int)) (.int .i64 0) (.slice none 0 0) (.int .i64 0) K5 (wc.alloc (.cells #[.slice none 0 0,.int .i64 0] 123))) := Lib.hid (by
   refine ⟨F4.sub (fun p hp => ?_),?_,?_,?_,?_,?_,⟨?_,?_,?_,fun p hp => ⟨?_,HNB.out p hp,?_⟩⟩,HR.out⟩
   ·simp only [List.mem_cons] at hp ⊢
    rcases hp with h | h | h | h
    ·exact .inr (.inl h)
    ·rw [h]; exact .inr (.inr mr.out)
    ·exact .inl h
    ·exact .inr (.inr (HSUB.out p h))
   ·rw [<- hK5]; simp
   ·rw [<- hK5]; simp
   ·rw [<- hK5]; simp
   ·rw [<- hK5,HNT.out]; simp
   ·intro p hp; rw [<- hK5]; simp [hp]
   ·have h1 := hK2lt _ mr.out
    have h2 := K3.out.1
    dsimp only at h1
    omega
   ·omega
   ·have h1 := hK2lt _ mr.out
    dsimp only at h1
    omega
   ·have h1 := hK2lt p (HSUB.out p hp)
    have h2 := K3.out.1
    omega
   ·have h1 := hK2lt p (HSUB.out p hp)
    omega)
  have HKK : Hid (∀ p ∈ ls ++ ks,p ∈ K5) := Lib.hid (fun p hp => by rw [<- hK5]; exact List.mem_cons_of_mem _ (List.mem_cons_of_mem _ (List.mem_cons_of_mem _ (List.mem_cons_of_mem _ hp))))
  have hkbk : kb < bk := HLT.out _ (List.mem_cons_self ..)
  obtain ⟨K6,hK6⟩ : ∃ K,(bx,Obj.cells #[.int .i64 (nt : Int)] 3 (0,0)) :: (bs,Obj.cells #[.slice a n cap] 34 (0,0)) :: (bk,Obj.cells #[.pointer (some ⟨kb,0,none⟩)] 79 (0,0)) :: (ls ++ ks) = K := ⟨_,rfl⟩
  have H56 : Hid (∀ p ∈ (kb,Obj.cells row 129 (0,0)) :: K6,p ∈ K5) := Lib.hid (fun p hp => by
   rw [<- hK6] at hp
   rw [<- hK5]
   simp only [List.mem_cons] at hp ⊢
   rcases hp with h | h | h | h | h
   ·exact .inr (.inr (.inr (.inl h)))
   ·exact .inl h
   ·exact .inr (.inl h)
   ·exact .inr (.inr (.inl h))
   ·exact .inr (.inr (.inr (.inr h))))
  have H6N : Hid (∀ p ∈ K6,p.1 ≠ kb) := Lib.hid (fun p hp => by
   have h1 := HB.out
   have h2 := HBX.out
   rw [<- hK6] at hp
   simp only [List.mem_cons] at hp
   rcases hp with rfl | rfl | rfl | h
   ·show bx ≠ kb; omega
   ·show bs ≠ kb; omega
   ·show bk ≠ kb; omega
   ·exact HNE.out p h)
  have H6K : Hid ((bk,Obj.cells #[.pointer (some ⟨kb,0,none⟩)] 79 (0,0)) ∈ K6 /\ (bs,Obj.cells #[.slice a n cap] 34 (0,0)) ∈ K6 /\ ∀ p ∈ ls ++ ks,p ∈ K6) := Lib.hid ⟨by rw [<- hK6]; simp,by rw [<- hK6]; simp,fun p hp => by rw [<- hK6]; exact List.mem_cons_of_mem _ (List.mem_cons_of_mem _ (List.mem_cons_of_mem _ hp))⟩
  have HKB : Hid ((kb,Obj.cells row 129 (0,0)) ∈ K5) := Lib.hid (by rw [<- hK5]; simp)
  generalize World.alloc wc _ = W5 at TS ⊢
  clear hkbk hK6 hK5 hK2lt F4 hbb hblb hszb F3 K3 c1 c2 c3 p0 p1 p2 p3 p4 d2 d3 i2 mK mk ms mr mx ml mks HLT HBX HB HSUB HNB CK LVS KX KB F2
  have TS5 : Hid (TryS w b T wb E D l rd kb row ls bk bs bx bl br bb (.slice a n cap) (.int .i64 (n0 : Int)) (.int .i64 0) (.slice none 0 0) (.int .i64 0) K5 W5.drew) := Lib.hid TS.out.drew
  obtain ⟨wn,hwn⟩ : ∃ z,b.p.win = z := ⟨_,rfl⟩
  have HWN := Lib.hid hwn
  have hw16 : wn <= 16 := by rw [<- hwn]; exact hb.1
  obtain ⟨c1,c2,c3,c4,c5,d0,d1,d2,d3,d4⟩ := TS5.out.cells
  rw [hwn] at d0
  have c1 : W5.cell? ⟨bk,0,none⟩ = some (.pointer (some ⟨kb,0,none⟩)) := c1
  have d0 : W5.cell? ⟨kb,0,none⟩ = some (.int .i64 (wn : Int)) := d0
  clear c2 c3 c4 c5 d1 d2 d3 d4 hwn
  go_wp2_with fail
  go_loopw [59] (fun v59 wr => ∃ (r : Nat) (v u : Value),v59 = .int .i64 (r : Int) /\ r <= wn /\ TryS w b T wb E D l rd kb row ls bk bs bx bl br bb (.slice a n cap) (.int .i64 ((pickN b T succ r).1 : Int)) (.int .i64 ((pickN b T succ r).2.1 : Int)) v u K5 wr /\ Slot K5 (pickN b T succ r).2.2 v u) (fun v59 _ => wn - (intOf v59).toNat)
  case atStart =>
   refine ⟨0,_,_,rfl,Nat.zero_le _,?_,⟨none,0,rfl,rfl,Nat.le_refl _,fun W _ => LV.nil⟩⟩
   show TryS w b T wb E D l rd kb row ls bk bs bx bl br bb (.slice a n cap) (.int .i64 ((lay T.length succ [] 0 b.p).length : Int)) (.int .i64 0) (.slice none 0 0) (.int .i64 0) K5 _
   rw [HN0.out]
   exact TS5.out
  case round =>
   obtain ⟨r,v,u,rfl,hr,hS,hsl⟩ := hrel
   rename World => wr
   by_cases hlt : r < wn
   ·have TR := try_any (succ := succ) (cap := cap) (a := a) (q := pickN b T succ r) (by rw [HN.out]; exact hS) hG hb (by rw [HNT.out]; exact hx) HS.out HTO.out (by rw [HN.out]; exact hc) (HAS.out.more (fun p hp => HKK.out p (List.mem_append_right _ hp))) hsl (r + 1) ⟨by omega,by omega⟩
    rw [HN.out,<- pickN_succ,show ((r + 1 : Nat) : Int) = (r : Int) + 1 by omega] at TR
    have HTR := Lib.hid TR
    have i1 : decide ((r : Int) < (wn : Int)) = true := decide_eq_true (by omega)
    clear TR hS hsl c1 d0
    go_wp2_with fail
    with_reducible refine HTR.out.mono ?_
    rintro e w6 ⟨rfl,v', u', hS', hsl'⟩
    have HS' := Lib.hid (And.intro hS' hsl')
    clear hS' hsl' HTR
    go_wp2_with fail
    go_roundw
    case rel => exact ⟨r + 1,v', u', by go_num,by omega,HS'.out.1,HS'.out.2⟩
    case measure => simp [intOf]; omega
   ·have hre : r = wn := by omega
    subst hre
    have i1 : decide ((r : Int) < (r : Int)) = false := decide_eq_false (by omega)
    have PB := Lib.hid (pickB_ok b T succ)
    have hmq := PB.out.may hb (by rw [HNT.out]; exact hx) HS.out HTO.out
    have HPK : pickB b T succ = pickN b T succ r := by unfold pickB; rw [HWN.out]
    obtain ⟨q,hq⟩ : ∃ q,pickB b T succ = q := ⟨_,rfl⟩
    have ADDB : Hid (addB b T succ = lay T.length succ q.2.2.1 q.2.1 b.p) := Lib.hid (by rw [<- hq]; rfl)
    have PUTB : Hid (putB b T succ = (succ,chainOf q)) := Lib.hid (by rw [<- hq]; rfl)
    rw [<- HPK,hq] at hS hsl
    rw [hq] at hmq PB
    have HQ := Lib.hid hq
    have hl2 : l.length + (lay T.length succ q.2.2.1 q.2.1 b.p).length <= 134217728 := by rw [<- ADDB.out]; exact hl
    obtain ⟨lq,rq,tl,tc⟩ := q
    dsimp only at hS hsl hmq hl2
    obtain ⟨s9,d9,e1,e2,hd9,hst9⟩ := hsl
    subst e1 e2
    dsimp only at hS hd9 hst9
    obtain ⟨tn,htn⟩ : ∃ z,tl.length = z := ⟨_,rfl⟩
    have HTN := Lib.hid htn
    rw [htn] at hS hd9
    have HTS := Lib.hid hS
    have HST := Lib.hid hst9
    have EN : Hid (∀ W', TryS w b T wb E D l rd kb row ls bk bs bx bl br bb (.slice a n cap) (.int .i64 (lq : Int)) (.int .i64 (rq : Int)) (.slice s9 tn d9) (.int .i64 (tc : Int)) K5 W' -> Calls Tryz.prog 59 #[.pointer (some ⟨wb,0,none⟩),.int .i64 (nt : Int),.slice a n cap,.slice s9 tn d9,.int .i64 (rq : Int),.agg #[.int .i64 (b.p.win : Int),.int .i64 (b.p.itv : Int),.int .i64 (b.p.zet : Int)]] W' fun e w' =>
      e = .returned (.int .i64 0) /\ TryS w b T wb E D (l ++ addB b T succ) rd kb row ls bk bs bx bl br bb (.slice a n cap) (.int .i64 (lq : Int)) (.int .i64 (rq : Int)) (.slice s9 tn d9) (.int .i64 (tc : Int)) K5 w') := Lib.hid (fun W' h' => by
     have h2 := h'.enc hG b.p T.length a succ cap s9 tl d9 rq (by rw [HN.out]; exact hc) (by rw [HTN.out]; exact hd9) hmq (HAS.out W' h'.fs.below (fun p hp => h'.has (HKK.out p (List.mem_append_right _ hp)))) (HST.out W' (fun p hp => h'.has hp)) hl2
     rw [HN.out,HTN.out,HNT.out] at h2
     rw [ADDB.out]
     dsimp only
     rw [HNT.out]
     exact h2)
    have CT : Hid (∀ l' W', TryS w b T wb E D l' rd kb row ls bk bs bx bl br bb (.slice a n cap) (.int .i64 (lq : Int)) (.int .i64 (rq : Int)) (.slice s9 tn d9) (.int .i64 (tc : Int)) K5 W' -> W'.cell? ⟨bk,0,none⟩ = some (.pointer (some ⟨kb,0,none⟩)) /\ W'.cell? ⟨bs,0,none⟩ = some (.slice a n cap) /\ W'.cell? ⟨bx,0,none⟩ = some (.int .i64 (nt : Int)) /\ W'.cell? ⟨br,0,none⟩ = some (.int .i64 (rq : Int)) /\ W'.cell? ⟨kb,0,none⟩ = some (.int .i64 (b.p.win : Int)) /\ W'.cell? ⟨kb,1,none⟩ = some (.int .i64 (b.depth : Int)) /\ W'.cell? ⟨kb,2,none⟩ = some (.int .i64 (b.p.itv : Int)) /\ W'.cell? ⟨kb,3,none⟩ = some (.int .i64 (b.p.zet : Int)) /\ W'.cell? ⟨kb,4,none⟩ = some (.int .i64 (b.cap : Int)) /\ W'.cell? ⟨kb,40,none⟩ = some (.pointer (some ⟨wb,0,none⟩)) /\ W'.cell? ⟨bb,0,none⟩ = some (.slice s9 tn d9)) := Lib.hid (fun l' W' h' => by
     obtain ⟨c1,c2,c3,c4,c5,d0,d1,d2,d3,d4⟩ := h'.cells
     obtain ⟨e1,e2,-⟩ := h'.cells2
     rw [HNT.out] at c3
     exact ⟨c1,c2,c3,c5,d0,d1,d2,d3,d4,e1,e2⟩)
    clear hS hst9 htn hmq hl2 hl hq HPK c1 d0 TS TS5
    go_upto_region 18 with fail
    obtain ⟨c1,c2,c3,c5,d0,d1,d2,d3,d4,d5,d6⟩ := CT.out _ _ HTS.out
    go_region_held3 (fun W' => W'.cell? ⟨bk,0,none⟩ = some (.pointer (some ⟨kb,0,none⟩)) /\ W'.cell? ⟨bs,0,none⟩ = some (.slice a n cap) /\ W'.cell? ⟨bx,0,none⟩ = some (.int .i64 (nt : Int)) /\ W'.cell? ⟨br,0,none⟩ = some (.int .i64 (rq : Int)) /\ W'.cell? ⟨kb,0,none⟩ = some (.int .i64 (b.p.win : Int)) /\ W'.cell? ⟨kb,1,none⟩ = some (.int .i64 (b.depth : Int)) /\ W'.cell? ⟨kb,2,none⟩ = some (.int .i64 (b.p.itv : Int)) /\ W'.cell? ⟨kb,3,none⟩ = some (.int .i64 (b.p.zet : Int)) /\ W'.cell? ⟨kb,4,none⟩ = some (.int .i64 (b.cap : Int)) /\ W'.cell? ⟨kb,40,none⟩ = some (.pointer (some ⟨wb,0,none⟩)) /\ W'.cell? ⟨bb,0,none⟩ = some (.slice s9 tn d9))
     (first | exact CT.out _ _ HTS.out | exact CT.out _ _ HTS.out.drew | exact CT.out _ _ (by assumption) | exact CT.out _ _ (TryS.drew (by assumption)))
     (first
      | (go_at_call 26; (with_reducible refine (BL.out _).mono ?_); rintro e w6 ⟨rfl,k6⟩; have h6 := (by first | exact HTS.out.next k6 | exact HTS.out.drew.next k6 : TryS w b T wb E D l rd kb row ls bk bs bx bl br bb (.slice a n cap) (.int .i64 (lq : Int)) (.int .i64 (rq : Int)) (.slice s9 tn d9) (.int .i64 (tc : Int)) K5 w6))
      | (go_at_call 59; (with_reducible refine (EN.out _ (by first | exact h6 | exact h6.drew)).mono ?_); rintro e w7 ⟨rfl,h7⟩))
    have H7 := Lib.hid h7
    clear h6 h7 k6 HTS EN c1 c2 c3 c5 d0 d1 d2 d3 d4 d5 d6 BL
    obtain ⟨ch,hch⟩ : ∃ z,chainOf (lq,rq,tl,tc) = z := ⟨_,rfl⟩
    rw [hch] at PUTB
    have HCH := Lib.hid hch
    clear hch
    obtain ⟨-,-,-,-,c5,-⟩ := H7.out.cells
    obtain ⟨-,-,c6,-⟩ := H7.out.cells2
    go_upto_if 86 with fail
    go_cut [13] from 85 to 89 (fun v13 wc => v13 = .int .i64 (ch : Int) /\ w7 = wc)
    case first =>
     by_cases h0 : 0 < rq
     ·have j1 : decide ((0 : Int) < (rq : Int)) = true := decide_eq_true (by omega)
      have j1n : decide (0 < rq) = true := decide_eq_true h0
      have e1 : ch = tc + 1 := by rw [<- HCH.out]; unfold chainOf; rw [if_pos h0]
      have htc : tc < 16 := by
       rcases PB.out.by_ with ⟨h,_⟩ | ⟨_,h⟩
       ·dsimp only at h; omega
       ·have h5 := (back_some h).2.2.2.1
        unfold tkMay at h5
        dsimp only at h5
        omega
      have e2 : (ch : Int) = (tc : Int) + 1 := by omega
      have HE := Lib.hid e2
      clear e1 e2
      go_wp2_with fail
      go_meet
      case rel => exact ⟨by rw [HE.out],rfl⟩
     ·have j1 : decide ((0 : Int) < (rq : Int)) = false := decide_eq_false (by omega)
      have j1n : decide (0 < rq) = false := decide_eq_false h0
      have e1 : ch = 0 := by rw [<- HCH.out]; unfold chainOf; rw [if_neg h0]
      subst e1
      go_wp2_with fail
      go_meet
      case rel => exact ⟨rfl,rfl⟩
    case rest =>
     obtain ⟨rfl,hwd⟩ := hcut
     subst hwd
     clear c5 c6
     have hne7 := H7.out.ne
     have hkb7 := hne7.2.2.2 _ HKB.out
     dsimp only at hkb7
     have PF : Hid (∀ (w3 w4 : World) (kv : List (Nat × Obj)) (o' : Obj),Below w7.heap.size w7 w3 -> (∀ p ∈ kv,w7.heap.size <= p.1 /\ w3.heap[p.1]? = some p.2) -> Keeps w3 w4 (fun x => x = kb) -> w4.heap[kb]? = some o' ->
       FS w (some (wb,l ++ addB b T succ)) rd ((kb,o') :: (bl,.cells #[.int .i64 (lq : Int)] 3 (0,0)) :: (br,.cells #[.int .i64 (rq : Int)] 3 (0,0)) :: (bb,.cells #[.slice s9 tn d9,.int .i64 (tc : Int)] 123 (0,0)) :: (kv ++ K6)) w4) := Lib.hid (fun w3 w4 kv o' k hkv hk ho => by
      have hlt := lt_of_block (H7.out.has HKB.out)
      refine ((H7.out.fs.more k hkv).sub (ks' := (kb,Obj.cells row 129 (0,0)) :: (bl,.cells #[.int .i64 (lq : Int)] 3 (0,0)) :: (br,.cells #[.int .i64 (rq : Int)] 3 (0,0)) :: (bb,.cells #[.slice s9 tn d9,.int .i64 (tc : Int)] 123 (0,0)) :: (kv ++ K6)) (fun p hp => ?_)).turn hk ho (fun p hp => ?_)
      ·simp only [List.mem_cons,List.mem_append] at hp ⊢
       rcases hp with h | h | h | h | h | h
       ·exact .inr (.inr (.inr (.inr (by rw [h]; exact HKB.out))))
       ·exact .inr (.inl h)
       ·exact .inr (.inr (.inl h))
       ·exact .inr (.inr (.inr (.inl h)))
       ·exact .inl h
       ·exact .inr (.inr (.inr (.inr (H56.out p (List.mem_cons_of_mem _ h)))))
      ·simp only [List.mem_cons,List.mem_append] at hp
       rcases hp with rfl | rfl | rfl | h | h
       ·exact fun e => hkb7.1 e.symm
       ·exact fun e => hkb7.2.1 e.symm
       ·exact fun e => hkb7.2.2 e.symm
       ·have := (hkv p h).1
        dsimp only at hlt
        omega
       ·exact H6N.out p h)
     have LV7 : Hid (LV w7 a succ) := Lib.hid (HAS.out w7 H7.out.fs.below (fun p hp => H7.out.has (HKK.out p (List.mem_append_right _ hp))))
     have HPT : Hid (∀ (w3 : World),Below w7.heap.size w7 w3 -> ∀ (s3 : Option Addr) (d3 : Nat),Calls Tryz.prog 69 #[.pointer (some ⟨kb,5,none⟩),.slice s3 n d3,.int .i64 (ch : Int)] w3 fun e w' => e = .returned (.tuple #[]) /\ Keeps w3 w' (fun x => x = kb) /\ w'.heap.size = w3.heap.size /\ w'.heap[kb]? = some (.cells (putRow row 5 T.length (.slice s3 n d3) (ch : Int)) 129 (0,0))) := Lib.hid (fun w3 k s3 d3 =>
      rput_any w3 kb 5 row _ ((k.block _ (lt_of_block (H7.out.has HKB.out))).trans (H7.out.has HKB.out)) T ls HR.out.ring (by rw [HNT.out]; omega) s3 n d3 (ch : Int))
     obtain ⟨c1,c2,-⟩ := H7.out.cells
     have c1d : w7.drew.cell? ⟨bk,0,none⟩ = some (.pointer (some ⟨kb,0,none⟩)) := c1
     have c2d : w7.drew.cell? ⟨bs,0,none⟩ = some (.slice a n cap) := c2
     obtain ⟨j0,hj,hj0,hj1,hj2⟩ := info_parts Tryz.infoU32
     have C3 : Hid (0 + n <= maxLen) := Lib.hid (by simp only [maxLen]; omega)
     have C4 : Hid ((0 + n) * 4 <= 140737488355328) := Lib.hid (by omega)
     have SB32 : Hid (∀ x ∈ succ,x < 4294967296) := Lib.hid (fun x hx => Nat.lt_trans (HS.out.2 x hx) (by decide))
     go_upto_region 24 with fail
     go_cut [] from 90 to 96 (fun wc => ∃ kv s3 d3,n <= d3 /\ Stands kv s3 succ /\ (∀ p ∈ kv,w7.heap.size <= p.1) /\ FS w (some (wb,l ++ addB b T succ)) rd ((kb,.cells (putRow row 5 T.length (.slice s3 n d3) (ch : Int)) 129 (0,0)) :: (bl,.cells #[.int .i64 (lq : Int)] 3 (0,0)) :: (br,.cells #[.int .i64 (rq : Int)] 3 (0,0)) :: (bb,.cells #[.slice s9 tn d9,.int .i64 (tc : Int)] 123 (0,0)) :: (kv ++ K6)) wc)
     case first =>
      go_region_law (first
       | (refine wp_append_lv _ (by rfl) (.const (.slice none 0 0)) (.tmp 93) 34 rfl w7.heap.size 77 j0 (.int .u32 0) 4 Tryz.underlying34 hj hj0 hj1 hj2 rfl (.slice none 0 0) 0 [] rfl (World.ownsRow_nil _ _ _ _) a n cap succ rfl HN.out (LV7.out.below (Below.drew (Below.refl _ _))) C3.out C4.out (Nat.le_refl _) ?_; intro v3 w3 own3 hg3 hw3; have k3 : Below w7.heap.size w7 w3 := (Below.drew (Below.refl _ _)).grown hg3 (Nat.le_refl _) (fun k hk => by cases hk); have c1w : w3.cell? ⟨bk,0,none⟩ = some (.pointer (some ⟨kb,0,none⟩)) := (k3.cell (World.block_lt_of_cell? _ _ c1)).trans c1; rw [Nat.zero_add,List.nil_append,<- HN.out] at own3; obtain ⟨kv,s3,d3,rfl,hd3,hst3,hkv⟩ := own_stands own3 (by rw [HN.out]; exact hs9) SB32.out; rw [HN.out] at hd3 ⊢; clear own3 hg3 hw3)
       | (go_simp; go_at_call 69; (with_reducible refine (HPT.out _ k3 s3 d3).mono ?_); rintro e w4 ⟨rfl,hk4,-,hr4⟩; dsimp only))
      all_goals
       go_wp2_with fail
       refine Met.intro ?_
       apply_assumption
       (repeat apply Exists.intro)
       refine ⟨?_,rfl⟩
       exact ⟨kv,s3,d3,hd3,hst3,fun p hp => (hkv p hp).1,PF.out w3 w4 kv _ k3 hkv hk4 hr4⟩
     case rest =>
      obtain ⟨kv,s3,d3,hd3,hst3,hkv,hF8⟩ := hcut
      have F8 := Lib.hid hF8
      have hlt7 := lt_of_block (H7.out.has HKB.out)
      have hbr7 := lt_of_block (H7.out.fs.row (List.mem_cons_of_mem _ (List.mem_cons_self ..)))
      dsimp only at hlt7
      have hnek : ∀ p ∈ (bl,Obj.cells #[.int .i64 (lq : Int)] 3 (0,0)) :: (br,.cells #[.int .i64 (rq : Int)] 3 (0,0)) :: (bb,.cells #[.slice s9 tn d9,.int .i64 (tc : Int)] 123 (0,0)) :: (kv ++ K6),p.1 ≠ kb := fun p hp => by
       simp only [List.mem_cons,List.mem_append] at hp
       rcases hp with rfl | rfl | rfl | h | h
       ·exact fun e => hkb7.1 e.symm
       ·exact fun e => hkb7.2.1 e.symm
       ·exact fun e => hkb7.2.2 e.symm
       ·have := hkv p h
        omega
       ·exact H6N.out p h
      have HNK := Lib.hid hnek
      have rkb := F8.out.row (List.mem_cons_self ..)
      have rbl := F8.out.row (List.mem_cons_of_mem _ (List.mem_cons_self ..))
      have rbr := F8.out.row (List.mem_cons_of_mem _ (List.mem_cons_of_mem _ (List.mem_cons_self ..)))
      have rin : ∀ p ∈ K6,wc.heap[p.1]? = some p.2 := fun p hp => F8.out.row (b := p.1) (o := p.2) (List.mem_cons_of_mem _ (List.mem_cons_of_mem _ (List.mem_cons_of_mem _ (List.mem_cons_of_mem _ (List.mem_append_right _ hp)))))
      have hz43 := HR.out.size
      have c1 : wc.cell? ⟨bk,0,none⟩ = some (.pointer (some ⟨kb,0,none⟩)) := by rw [cell_of_row _ _ _ _ _ _ (rin _ H6K.out.1)]; rfl
      have c2 : wc.cell? ⟨bs,0,none⟩ = some (.slice a n cap) := by rw [cell_of_row _ _ _ _ _ _ (rin _ H6K.out.2.1)]; rfl
      have c3 : wc.cell? ⟨kb,41,none⟩ = some (.int .i64 (E : Int)) := by
       rw [cell_of_row _ _ _ _ _ _ rkb,putRow_get _ (by omega),if_neg (by omega),if_neg (by omega),if_neg (by omega)]
       exact HR.out.e
      have f3 : wc.frozen? ⟨kb,41,none⟩ = false := frozen_of_row wc _ _ _ _ rkb
      have c1d : wc.drew.cell? ⟨bk,0,none⟩ = some (.pointer (some ⟨kb,0,none⟩)) := c1
      have c2d : wc.drew.cell? ⟨bs,0,none⟩ = some (.slice a n cap) := c2
      have c3d : wc.drew.cell? ⟨kb,41,none⟩ = some (.int .i64 (E : Int)) := c3
      have f3d : wc.drew.frozen? ⟨kb,41,none⟩ = false := f3
      clear hF8 hnek rin PF LV7 HPT SB32 C3 C4
      go_upto_region 25 with fail
      go_big_region
      obtain ⟨row9,hrow9⟩ : ∃ z,(putRow row 5 T.length (.slice s3 n d3) (ch : Int)).setIfInBounds 41 (.int .i64 ((E : Int) + (n : Int))) = z := ⟨_,rfl⟩
      have F9 : Hid (FS w (some (wb,l ++ addB b T succ)) rd ((kb,.cells row9 129 (0,0)) :: (bl,.cells #[.int .i64 (lq : Int)] 3 (0,0)) :: (br,.cells #[.int .i64 (rq : Int)] 3 (0,0)) :: (bb,.cells #[.slice s9 tn d9,.int .i64 (tc : Int)] 123 (0,0)) :: (kv ++ K6)) (World.drew (World.setCell wc ⟨kb,41,none⟩ (.int .i64 ((E : Int) + (n : Int)))))) := Lib.hid (by
       rw [<- hrow9]
       exact (F8.out.store (j := 41) (.int .i64 ((E : Int) + (n : Int))) HNK.out).drew)
      have HR9 := Lib.hid hrow9
      generalize World.drew (World.setCell wc _ _) = W9 at F9 ⊢
      clear hrow9 F8 rkb rbl rbr c1 c2 c3 f3 c1d c2d c3d f3d
      have hnb : ∀ p ∈ (kb,Obj.cells row9 129 (0,0)) :: (bl,.cells #[.int .i64 (lq : Int)] 3 (0,0)) :: (bb,.cells #[.slice s9 tn d9,.int .i64 (tc : Int)] 123 (0,0)) :: (kv ++ K6),p.1 ≠ br := fun p hp => by
       simp only [List.mem_cons,List.mem_append] at hp
       rcases hp with rfl | rfl | rfl | h | h
       ·exact hkb7.2.1
       ·exact hne7.1
       ·exact fun e => hne7.2.2.1 e.symm
       ·have := hkv p h
        omega
       ·exact (hne7.2.2.2 p (H56.out p (List.mem_cons_of_mem _ h))).2.1
      have HNBR := Lib.hid hnb
      have rbl := F9.out.row (List.mem_cons_of_mem _ (List.mem_cons_self ..))
      have rbr := F9.out.row (List.mem_cons_of_mem _ (List.mem_cons_of_mem _ (List.mem_cons_self ..)))
      have c1 : W9.cell? ⟨bl,0,none⟩ = some (.int .i64 (lq : Int)) := by rw [cell_of_row _ _ _ _ _ _ rbl]; rfl
      have c2 : W9.cell? ⟨br,0,none⟩ = some (.int .i64 (rq : Int)) := by rw [cell_of_row _ _ _ _ _ _ rbr]; rfl
      have f2 : W9.frozen? ⟨br,0,none⟩ = false := frozen_of_row W9 _ _ _ _ rbr
      have c1d : W9.drew.cell? ⟨bl,0,none⟩ = some (.int .i64 (lq : Int)) := c1
      have c2d : W9.drew.cell? ⟨br,0,none⟩ = some (.int .i64 (rq : Int)) := c2
      have f2d : W9.drew.frozen? ⟨br,0,none⟩ = false := f2
      have hn1 := hne7.1
      clear hnb rbl rbr
      go_upto_region 26 with fail
      go_big_region
      have F10 : Hid (FS w (some (wb,l ++ addB b T succ)) rd ((br,.cells #[.int .i64 (rq : Int)] 3 (0,0)) :: (kb,Obj.cells row9 129 (0,0)) :: (bl,.cells #[.int .i64 (lq : Int)] 3 (0,0)) :: (bb,.cells #[.slice s9 tn d9,.int .i64 (tc : Int)] 123 (0,0)) :: (kv ++ K6)) (World.drew (World.setCell W9 ⟨br,0,none⟩ (.int .i64 (rq : Int))))) := Lib.hid (((show FS w (some (wb,l ++ addB b T succ)) rd ((br,.cells #[.int .i64 (rq : Int)] 3 (0,0)) :: (kb,Obj.cells row9 129 (0,0)) :: (bl,.cells #[.int .i64 (lq : Int)] 3 (0,0)) :: (bb,.cells #[.slice s9 tn d9,.int .i64 (tc : Int)] 123 (0,0)) :: (kv ++ K6)) W9 from F9.out.sub (fun p hp => by
       simp only [List.mem_cons] at hp ⊢
       rcases hp with h | h | h | h | h
       ·exact .inr (.inr (.inl h))
       ·exact .inl h
       ·exact .inr (.inl h)
       ·exact .inr (.inr (.inr (.inl h)))
       ·exact .inr (.inr (.inr (.inr h))))).store (b := br) (row := #[.int .i64 (rq : Int)]) (T := 3) (j := 0) (.int .i64 (rq : Int)) HNBR.out).drew)
      generalize World.drew (World.setCell W9 _ _) = W10 at F10 ⊢
      have q0 : W10.cell? ⟨br,0,none⟩ = some (.int .i64 (rq : Int)) := by rw [cell_of_row _ _ _ _ _ _ (F10.out.row (List.mem_cons_self ..))]; rfl
      clear c1 c2 f2 c1d c2d f2d F9
      go_wp2_with fail
      refine bodyPost_ret (v := .tuple #[.int .i64 (rq : Int),.int .i64 (lq : Int),.int .i64 0]) (by simp [results,Tryz.results37,go_sem,q0]) rfl ⟨by rw [HQ.out],kv ++ ls,⟨row9,F10.out.sub (fun p hp => ?_),fun p hp => ?_,?_⟩,fun p hp => ?_⟩
      ·simp only [List.mem_cons,List.mem_append] at hp ⊢
       rcases hp with h | (h | h) | h
       ·exact .inr (.inl h)
       ·exact .inr (.inr (.inr (.inr (.inl h))))
       ·exact .inr (.inr (.inr (.inr (.inr (H6K.out.2.2 p (List.mem_append_left _ h))))))
       ·exact .inr (.inr (.inr (.inr (.inr (H6K.out.2.2 p (List.mem_append_right _ h))))))
      ·rw [List.append_assoc] at hp
       rcases List.mem_append.1 hp with h | h
       ·have := hkv p h
        omega
       ·exact HNE.out p h
      ·have h1 := HR.out.put (succ,ch) s3 d3 (E + n) (by dsimp only; rw [HN.out]; exact hd3) (hst3.more (ls' := kv ++ ls) (fun p hp => List.mem_append_left _ hp)) (fun p hp => List.mem_append_right _ hp)
       rw [PUTB.out,HN.out]
       dsimp only at h1
       rw [HN.out,show ((E + n : Nat) : Int) = (E : Int) + (n : Int) by omega,HR9.out] at h1
       exact h1
      ·rcases List.mem_append.1 hp with h | h
       ·have h1 := hkv p h
        have h2 := lt_of_block (H7.out.has (H56.out _ (List.mem_cons_of_mem _ H6K.out.1)))
        have h3 := HBK.out
        dsimp only at h2
        exact .inr (by omega)
       ·exact .inl h
section
variable {w W W' : World} {b : Bp} {T : List Tk} {wb E D : Nat} {l : Bits} {rd : Option (Nat × ByteArray × Nat)} {kb : Nat} {ls ks : List (Nat × Obj)}
theorem KS.next (h : KS w b T wb E D l rd kb ls ks W) (k : Below W.heap.size W W') : KS w b T wb E D l rd kb ls ks W' := by
 obtain ⟨row,h1,h2,h3⟩ := h
 exact ⟨row,h1.next k,h2,h3⟩
theorem KS.below (h : KS w b T wb E D l rd kb ls ks W) : Below w.heap.size w W := by
 obtain ⟨row,h1,_⟩ := h
 exact h1.below
theorem KS.has (h : KS w b T wb E D l rd kb ls ks W) {p : Nat × Obj} (hp : p ∈ ks) : W.heap[p.1]? = some p.2 := by
 obtain ⟨row,h1,_⟩ := h
 exact h1.row (b := p.1) (o := p.2) (List.mem_cons_of_mem _ (List.mem_append_right _ hp))
theorem KS.cells (h : KS w b T wb E D l rd kb ls ks W) : W.cell? ⟨kb, 40, none⟩ = some (.pointer (some ⟨wb, 0, none⟩)) ∧ W.cell? ⟨kb, 42, none⟩ = some (.int .i64 (D : Int)) := by
 obtain ⟨row,h1,_,h3⟩ := h
 have r := h1.row (List.mem_cons_self ..)
 exact ⟨by rw [cell_of_row _ _ _ _ _ _ r]; exact h3.w,by rw [cell_of_row _ _ _ _ _ _ r]; exact h3.d⟩
theorem KS.len (h : KS w b T wb E D l rd kb ls ks W) : Calls Tryz.prog 61 #[.pointer (some ⟨wb, 0, none⟩)] W fun e w' => e = .returned (.int .i64 (l.length : Int)) ∧ W = w' := by
 obtain ⟨row,h1,_⟩ := h
 exact h1.len
theorem KS.wtext (h : KS w b T wb E D l rd kb ls ks W) : Calls Tryz.prog 60 #[.pointer (some ⟨wb, 0, none⟩)] W fun e w' => e = .returned (.tuple #[.string (txt (packN l)), .int .i64 0]) ∧ W = w' := by
 obtain ⟨row,h1,_⟩ := h
 exact h1.text
set_option maxRecDepth 100000 in
theorem KS.text (h : KS w b T wb E D l rd kb ls ks W) : Calls Tryz.prog 43 #[.pointer (some ⟨kb, 0, none⟩)] W fun e w' => e = .returned (.tuple #[.string (txt (packN l)), .int .i64 0]) ∧ KS w b T wb E D l rd kb ls ks w' := by
 have H := Lib.hid h
 have TX := Lib.hid h.wtext
 obtain ⟨c0,-⟩ := h.cells
 obtain ⟨t,ht⟩ : ∃ t,txt (packN l) = t := ⟨_,rfl⟩
 rw [ht] at TX ⊢
 clear h ht
 go_enter Tryz.func43,Tryz.ntmps43
 go_wp2_with fail
 with_reducible refine TX.out.mono ?_
 rintro e w2 ⟨rfl,rfl⟩
 go_wp2_with fail
 go_ret2
 exact ⟨rfl,H.out⟩
set_option maxRecDepth 100000 in
theorem KS.bits (h : KS w b T wb E D l rd kb ls ks W) (hD : D + l.length ≤ 9223372036854775807) : Calls Tryz.prog 40 #[.pointer (some ⟨kb, 0, none⟩)] W fun e w' => e = .returned (.int .i64 ((D + l.length : Nat) : Int)) ∧ KS w b T wb E D l rd kb ls ks w' := by
 have H := Lib.hid h
 have LE := Lib.hid (fun W' (k : Below W.heap.size W W') => (h.next k).len)
 obtain ⟨c0,c1⟩ := h.cells
 obtain ⟨n,hn⟩ : ∃ n,l.length = n := ⟨_,rfl⟩
 rw [hn] at LE hD ⊢
 obtain ⟨m,hm⟩ : ∃ m,D + n = m := ⟨_,rfl⟩
 have e1 : IntKind.i64.wrap ((D : Int) + (n : Int)) = (m : Int) := by rw [IntWalk.i64_in _ (by omega)]; omega
 rw [hm]
 clear h hn hm
 go_enter Tryz.func40,Tryz.ntmps40
 go_upto_region 3 with fail
 have K0 := Below.refl W.heap.size W
 have CF : Hid (∀ W', Below W.heap.size W W' -> W'.cell? ⟨kb,40,none⟩ = some (.pointer (some ⟨wb,0,none⟩)) /\ W'.cell? ⟨kb,42,none⟩ = some (.int .i64 (D : Int)) /\ Below W.heap.size W W') := Lib.hid (fun W' k => ⟨(H.out.next k).cells.1,(H.out.next k).cells.2,k⟩)
 go_region_held3 (fun W' => W'.cell? ⟨kb,40,none⟩ = some (.pointer (some ⟨wb,0,none⟩)) /\ W'.cell? ⟨kb,42,none⟩ = some (.int .i64 (D : Int)) /\ Below W.heap.size W W')
  (first | exact CF.out _ (by assumption) | exact CF.out _ (Below.drew (by assumption)))
  (first | (go_at_call 61; (with_reducible refine (LE.out _ (by first | assumption | exact Below.drew (by assumption))).mono ?_); rintro e w5 ⟨rfl,rfl⟩))
 go_wp2_with fail
 go_ret
 exact ⟨rfl,H.out.next ⟨rfl,rfl,rfl,Nat.le_refl _,fun _ _ => rfl⟩⟩
end
def NewP (w : World) (b : Bp) (ks : List (Nat × Obj)) (e : Ending) (w' : World) : Prop := ∃ kb wb, e = .returned (.tuple #[.pointer (some ⟨kb, 0, none⟩), .int .i64 0]) ∧ KS w b [] wb 0 0 [] none kb [] ks w'
set_option maxRecDepth 100000 in
set_option maxHeartbeats 3200000 in
theorem bnew_yes {w W : World} {ks : List (Nat × Obj)} (b : Bp) (hb : BpOk (b.p.win : Int) (b.depth : Int) (b.p.itv : Int) (b.p.zet : Int) (b.cap : Int)) (h : FS w none none ks W) :
  Calls Tryz.prog 36 #[bpV (b.p.win : Int) (b.depth : Int) (b.p.itv : Int) (b.p.zet : Int) (b.cap : Int)] W (NewP w b ks) := by
 have CK := Lib.hid (fun W' => bcheck_any (b.p.win : Int) (b.depth : Int) (b.p.itv : Int) (b.p.zet : Int) (b.cap : Int) W')
 rw [if_pos hb] at CK
 have H := Lib.hid h
 obtain ⟨wn,hwn⟩ : ∃ z,b.p.win = z := ⟨_,rfl⟩
 obtain ⟨dp,hdp⟩ : ∃ z,b.depth = z := ⟨_,rfl⟩
 obtain ⟨iv,hiv⟩ : ∃ z,b.p.itv = z := ⟨_,rfl⟩
 obtain ⟨zt,hzt⟩ : ∃ z,b.p.zet = z := ⟨_,rfl⟩
 obtain ⟨cp,hcp⟩ : ∃ z,b.cap = z := ⟨_,rfl⟩
 have HB := Lib.hid (And.intro hwn (And.intro hdp (And.intro hiv (And.intro hzt hcp))))
 rw [hwn,hdp,hiv,hzt,hcp] at CK ⊢
 clear hwn hdp hiv hzt hcp hb h
 unfold bpV at CK ⊢
 go_enter Tryz.func36,Tryz.ntmps36
 go_wp2_with fail
 have kb : Below W.heap.size W (W.alloc (.cells #[.int .i64 (wn : Int),.int .i64 (dp : Int),.int .i64 (iv : Int),.int .i64 (zt : Int),.int .i64 (cp : Int)] 61)) := (by repeat (first | exact Below.refl _ _ | refine below_drewN ?_ _ | refine Below.setCell ?_ (by simp; try omega) _ | refine Below.alloc ?_ (by simp; try omega) _))
 have r1 := heap_alloc_new W (.cells #[.int .i64 (wn : Int),.int .i64 (dp : Int),.int .i64 (iv : Int),.int .i64 (zt : Int),.int .i64 (cp : Int)] 61)
 with_reducible refine (CK.out _).mono ?_
 rintro e w2 ⟨rfl,k2⟩
 have F2 := Lib.hid ((H.out.add #[.int .i64 (wn : Int),.int .i64 (dp : Int),.int .i64 (iv : Int),.int .i64 (zt : Int),.int .i64 (cp : Int)] 61).next k2)
 obtain ⟨pb,hpb⟩ : ∃ z,W.heap.size = z := ⟨_,rfl⟩
 rw [hpb] at F2 ⊢
 clear r1 kb k2 hpb
 have CF : Hid (∀ W' wr,FS w wr none ((pb,.cells #[.int .i64 (wn : Int),.int .i64 (dp : Int),.int .i64 (iv : Int),.int .i64 (zt : Int),.int .i64 (cp : Int)] 61 (0,0)) :: ks) W' -> W'.cell? ⟨pb,0,none⟩ = some (.int .i64 (wn : Int)) /\ W'.cell? ⟨pb,1,none⟩ = some (.int .i64 (dp : Int)) /\ W'.cell? ⟨pb,2,none⟩ = some (.int .i64 (iv : Int)) /\ W'.cell? ⟨pb,3,none⟩ = some (.int .i64 (zt : Int)) /\ W'.cell? ⟨pb,4,none⟩ = some (.int .i64 (cp : Int))) := Lib.hid (fun W' wr h => by
  have hr := h.row (List.mem_cons_self ..)
  exact ⟨by rw [cell_of_row _ _ _ _ _ _ hr]; rfl,by rw [cell_of_row _ _ _ _ _ _ hr]; rfl,by rw [cell_of_row _ _ _ _ _ _ hr]; rfl,by rw [cell_of_row _ _ _ _ _ _ hr]; rfl,by rw [cell_of_row _ _ _ _ _ _ hr]; rfl⟩)
 go_upto_region 4 with fail
 obtain ⟨p0,p1,p2,p3,p4⟩ := CF.out _ _ F2.out.drew
 go_region_law (first
  | (go_simp; go_at_call 58; (with_reducible refine (FS.new F2.out.drew).mono ?_); rintro e w3 ⟨wb,rfl,h3⟩; obtain ⟨q0,q1,q2,q3,q4⟩ := CF.out _ _ h3; dsimp only))
 all_goals
  have H3 := Lib.hid h3
  obtain ⟨e1,e2,e3,e4,e5⟩ := HB.out
  clear q0 q1 q2 q3 q4 p0 p1 p2 p3 p4 h3 CF F2
  have FIN : Hid (∀ row : Array Value,row = #[.int .i64 (wn : Int),.int .i64 (dp : Int),.int .i64 (iv : Int),.int .i64 (zt : Int),.int .i64 (cp : Int),.slice none 0 0,.int .i64 0,.slice none 0 0,.int .i64 0,.slice none 0 0,.int .i64 0,.slice none 0 0,.int .i64 0,.slice none 0 0,.int .i64 0,.slice none 0 0,.int .i64 0,.slice none 0 0,.int .i64 0,.slice none 0 0,.int .i64 0,.slice none 0 0,.int .i64 0,.slice none 0 0,.int .i64 0,.slice none 0 0,.int .i64 0,.slice none 0 0,.int .i64 0,.slice none 0 0,.int .i64 0,.slice none 0 0,.int .i64 0,.slice none 0 0,.int .i64 0,.slice none 0 0,.int .i64 0,.slice none 0 0,.int .i64 0,.int .i64 0,.pointer (some ⟨wb,0,none⟩),.int .i64 0,.int .i64 0] -> KS w b [] wb 0 0 [] none w3.heap.size [] ks (w3.alloc (.cells row 129))) := Lib.hid (fun row hrow => by
   refine ⟨row,(H3.out.add row 129).sub (fun p hp => ?_),fun p hp => ?_,?_⟩
   ·simp only [List.mem_cons,List.nil_append] at hp ⊢
    rcases hp with h | h
    ·exact .inl h
    ·exact .inr (.inr h)
   ·have := lt_of_block (H3.out.row (b := p.1) (o := p.2) (List.mem_cons_of_mem _ (by simpa using hp)))
    omega
   ·subst hrow
    refine ⟨rfl,by rw [e1]; rfl,by rw [e2]; rfl,by rw [e3]; rfl,by rw [e4]; rfl,by rw [e5]; rfl,⟨(show (5 + 35 : Nat) <= 43 from by decide),rfl,fun k hk => ⟨none,0,0,0,?_,?_⟩,fun j hj => by cases hj⟩,rfl,rfl,rfl⟩
    ·have : k = 0 \/ k = 1 \/ k = 2 \/ k = 3 \/ k = 4 \/ k = 5 \/ k = 6 \/ k = 7 \/ k = 8 \/ k = 9 \/ k = 10 \/ k = 11 \/ k = 12 \/ k = 13 \/ k = 14 \/ k = 15 \/ k = 16 := by omega
     rcases this with rfl | rfl | rfl | rfl | rfl | rfl | rfl | rfl | rfl | rfl | rfl | rfl | rfl | rfl | rfl | rfl | rfl <;> rfl
    ·have : k = 0 \/ k = 1 \/ k = 2 \/ k = 3 \/ k = 4 \/ k = 5 \/ k = 6 \/ k = 7 \/ k = 8 \/ k = 9 \/ k = 10 \/ k = 11 \/ k = 12 \/ k = 13 \/ k = 14 \/ k = 15 \/ k = 16 := by omega
     rcases this with rfl | rfl | rfl | rfl | rfl | rfl | rfl | rfl | rfl | rfl | rfl | rfl | rfl | rfl | rfl | rfl | rfl <;> rfl)
  go_wp2_with fail
  go_ret2
  exact ⟨w3.heap.size,wb,rfl,FIN.out _ rfl⟩
def LG (T : TypeId) (sz : Nat) (w0 : World) (ks : List (Nat × Obj)) (n : Nat) (xs : List Value) (v : Value) (W : World) : Prop :=
 Below w0.heap.size w0 W /\ W.ownsRow w0.heap.size T sz v n xs /\ ∀ p ∈ ks,W.heap[p.1]? = some p.2 /\ some p.1 ≠ v.ownBlock
section
variable {T : TypeId} {sz : Nat} {w0 W : World} {ks : List (Nat × Obj)} {n : Nat} {xs : List Value} {v : Value}
theorem LG.next (h : LG T sz w0 ks n xs v W) {W' : World} (k : Below W.heap.size W W') : LG T sz w0 ks n xs v W' :=
 ⟨h.1.trans (k.mono h.1.size),own_below h.2.1 k,fun p hp => ⟨(k.block _ (lt_of_block (h.2.2 p hp).1)).trans (h.2.2 p hp).1,(h.2.2 p hp).2⟩⟩
theorem LG.drew (h : LG T sz w0 ks n xs v W) : LG T sz w0 ks n xs v W.drew := h.next (Below.drew (Below.refl _ _))
theorem LG.row (h : LG T sz w0 ks n xs v W) {b : Nat} {o : Obj} (hm : (b, o) ∈ ks) : W.heap[b]? = some o := (h.2.2 _ hm).1
theorem LG.sub (h : LG T sz w0 ks n xs v W) {ks' : List (Nat × Obj)} (hs : ∀ p ∈ ks', p ∈ ks) : LG T sz w0 ks' n xs v W := ⟨h.1, h.2.1, fun p hp => h.2.2 p (hs p hp)⟩
theorem LG.keep (h : LG T sz w0 ks n xs v W) (row : Array Value) (U : TypeId) : LG T sz w0 ((W.heap.size, .cells row U (0, 0)) :: ks) n xs v (W.alloc (.cells row U)) := by
 have k : Below W.heap.size W (W.alloc (.cells row U)) := (Below.refl _ _).alloc (Nat.le_refl _) _
 obtain ⟨h1,h2,h3⟩ := h.next k
 refine ⟨h1,h2,fun p hp => ?_⟩
 rcases List.mem_cons.1 hp with rfl | hp
 ·exact ⟨heap_alloc_new W _,fun e => by have := (h.2.1.lt _ e.symm).2; exact absurd this (Nat.lt_irrefl _)⟩
 ·exact h3 p hp
theorem LG.with (h : LG T sz w0 ks n xs v W) {b : Nat} {o : Obj} (hb : W.heap[b]? = some o) (hne : some b ≠ v.ownBlock) : LG T sz w0 ((b, o) :: ks) n xs v W := by
 refine ⟨h.1,h.2.1,fun p hp => ?_⟩
 rcases List.mem_cons.1 hp with rfl | hp
 ·exact ⟨hb,hne⟩
 ·exact h.2.2 p hp
theorem LG.grow (h : LG T sz w0 ks n xs v W) {W2 : World} {v' : Value} {n' : Nat} {xs' : List Value} (own : W2.ownsRow w0.heap.size T sz v' n' xs') (hg : W.grownBy W2 v.ownBlock) (hw : v'.ownBlock = v.ownBlock ∨ v'.ownBlock = some W.heap.size) : LG T sz w0 ks n' xs' v' W2 := by
 obtain ⟨h1,h2,h3⟩ := h
 refine ⟨h1.grown hg h1.size (fun k hk => (h2.lt k hk).1),own,fun p hp => ?_⟩
 obtain ⟨h4,h5⟩ := h3 p hp
 refine ⟨(hg.block _ (lt_of_block h4) h5).trans h4,fun e => ?_⟩
 rcases hw with h | h
 ·exact h5 (e.trans h)
 ·rw [h] at e
  injection e with e
  have := lt_of_block h4
  omega
end
def LO (w0 : World) (ks : List (Nat × Obj)) (out : Bits) (v : Value) (W : World) : Prop := LG 4 1 w0 ks out.length (bls out) v W
theorem LO.grow {w0 W : World} {ks : List (Nat × Obj)} {out : Bits} {v : Value} (h : LO w0 ks out v W) {W2 : World} {v' : Value} (bs : Bits) (m : Nat) (hm : bs.length = m) (own : W2.ownsRow w0.heap.size 4 1 v' (out.length + m) (bls out ++ bls bs)) (hg : W.grownBy W2 v.ownBlock) (hw : v'.ownBlock = v.ownBlock ∨ v'.ownBlock = some W.heap.size) : LO w0 ks (out ++ bs) v' W2 := by
 refine LG.grow h ?_ hg hw
 rw [List.length_append,hm,<- bls_append]
 exact own

/-! ### Zig, zig, Bits, gamma -/
set_option maxRecDepth 100000 in
theorem dZig_any (z : Int) (h1 : -1000000 ≤ z) (h2 : z ≤ 1000000) (w : World) : Calls Tryz.prog 118 #[.int .i64 z] w fun e w' => e = .returned (.int .u64 ((zig z : Nat) : Int)) ∧ w = w' := by
 obtain ⟨k,hk⟩ : ∃ k,zig z = k := ⟨_,rfl⟩
 rw [hk]
 by_cases h0 : 0 <= z
 ·obtain ⟨n,rfl⟩ : ∃ n : Nat,z = (n : Int) := ⟨z.toNat,by omega⟩
  have e : 2 * (n : Int) = (k : Int) := by unfold zig at hk; rw [if_pos h0] at hk; omega
  have i1 : decide ((0 : Int) <= (n : Int)) = true := decide_eq_true h0
  clear hk h0 h1
  go_enter Tryz.func118,Tryz.ntmps118
  go_wp2_with fail
  go_ret
  exact ⟨rfl,rfl⟩
 ·obtain ⟨n,hn⟩ : ∃ n : Nat,-(z + 1) = (n : Int) := ⟨(-(z + 1)).toNat,by omega⟩
  have e : 2 * (n : Int) + 1 = (k : Int) := by unfold zig at hk; rw [if_neg h0] at hk; omega
  have i1 : decide ((0 : Int) <= z) = false := decide_eq_false h0
  have n9 : n <= 1000000 := by omega
  clear hk
  go_enter Tryz.func118,Tryz.ntmps118
  go_wp2_with fail
  go_ret
  exact ⟨rfl,rfl⟩
set_option maxRecDepth 100000 in
theorem dzig_any (v x : Nat) (hv : v < 65536) (hx : x < 65536) (w : World) : Calls Tryz.prog 94 #[.int .u32 (v : Int), .int .i64 (x : Int)] w fun e w' => e = .returned (.int .i64 ((zig ((v : Int) - x) : Nat) : Int)) ∧ w = w' := by
 have ZG := Lib.hid (fun W => dZig_any ((v : Int) - (x : Int)) (by omega) (by omega) W)
 have hz := zig_lt2 (v := v) (x := x) hv hx
 obtain ⟨k,hk⟩ : ∃ k,zig ((v : Int) - x) = k := ⟨_,rfl⟩
 rw [hk] at ZG hz ⊢
 clear hk
 go_enter Tryz.func94,Tryz.ntmps94
 go_wp2_with fail
 with_reducible refine (ZG.out _).mono ?_
 rintro e w2 ⟨rfl,rfl⟩
 go_wp2_with fail
 go_ret
 exact ⟨rfl,rfl⟩
theorem below_app {w W W3 : World} {vu v3 : Value} {A B : Bits} {a b : Nat} (kk : Below w.heap.size w W) (pu : W.ownsRow w.heap.size 4 1 vu a (bls A)) (own3 : W3.ownsRow w.heap.size 4 1 v3 (a + b) (bls A ++ bls B)) (hg3 : W.grownBy W3 vu.ownBlock) (hl : (A ++ B).length = a + b) : RowPost (A ++ B) w (.returned v3) W3 :=
 ⟨v3,rfl,by rw [hl,<- bls_append]; exact own3,kk.grown hg3 kk.size (fun k hk => (pu.lt k hk).1)⟩
set_option maxRecDepth 100000 in
set_option maxHeartbeats 3200000 in
theorem dbits_gam (v : Nat) (hv : v ≤ 1000000) (w : World) : Calls Tryz.prog 90 #[.agg #[.int .u8 1, .int .u64 0], .int .u64 (v : Int)] w (RowPost (cb .gam v) w) := by
 obtain ⟨i0,hi,hz0,hz1,hz2⟩ := info_parts Tryz.infoBool
 have LOW := Lib.hid (fun W => low_any (v + 1) (by omega) (by omega) W)
 have hlog : Nat.log2 (v + 1) < 20 := log_lt (by rw [show (2 : Nat) ^ 20 = 1048576 from rfl]; omega)
 have h1 := Nat.log2_self_le (n := v + 1) (by omega)
 have HC : Hid (cb .gam v = un (Nat.log2 (v + 1)) ++ ofN (Nat.log2 (v + 1)) (v + 1 - 2 ^ Nat.log2 (v + 1))) := Lib.hid (cb_gam v)
 obtain ⟨b,hb⟩ : ∃ b,Nat.log2 (v + 1) = b := ⟨_,rfl⟩
 obtain ⟨n,hn⟩ : ∃ n,v + 1 = n := ⟨_,rfl⟩
 rw [hb,hn] at HC
 rw [hn] at LOW h1
 rw [hn] at hb
 rw [hb] at LOW h1
 obtain ⟨q,hq⟩ : ∃ q,2 ^ b = q := ⟨_,rfl⟩
 rw [hq] at HC h1
 have hb20 : b < 20 := by rw [<- hb,<- hn]; exact hlog
 have hnI : (v : Int) + 1 = (n : Int) := by omega
 obtain ⟨d,hd⟩ : ∃ d,n - q = d := ⟨_,rfl⟩
 rw [hd] at HC
 have e3 := u64_pow b q hq (by omega)
 have e4 := u64_sub n q h1 (by omega)
 rw [hd] at e4
 have d9 : d <= 1000001 := by omega
 have UN := Lib.hid (fun W => unary_any b (by omega) W)
 have OF := Lib.hid (fun W => Of_any b d (by omega) (by omega) W)
 have wbb : IntKind.u64.wrap (b : Int) = (b : Int) := IntWalk.u64_in _ (by omega)
 clear hlog hb hn hq hd h1
 go_enter Tryz.func90,Tryz.ntmps90
 go_wp2_with fail
 with_reducible refine (LOW.out _).mono ?_
 rintro e w2 ⟨rfl,rfl⟩
 go_upto_region 7 with fail
 have kk : Below w.heap.size w (w.alloc (.cells #[.int .u8 1,.int .u64 0] 104)) := (Below.refl _ _).alloc (Nat.le_refl _) _
 generalize World.alloc w _ = W1 at kk ⊢
 have kk := Below.drew kk
 go_region_law (first
   | (go_simp; go_at_call 115; (try rw [wbb]); (with_reducible refine (UN.out _).mono ?_); rintro e w2 ⟨v2,rfl,o2,k2⟩; have pu := own_base o2 kk.size; (try have po := own_below po k2); have kk := kk.trans (k2.mono kk.size); clear o2 k2; rw [un_length] at pu; dsimp only)
   | (go_simp; go_at_call 116; (try rw [wbb]); (with_reducible refine (OF.out _).mono ?_); rintro e w2 ⟨v2,rfl,o2,k2⟩; have po := own_base o2 kk.size; (try have pu := own_below pu k2); have kk := kk.trans (k2.mono kk.size); clear o2 k2; rw [ofN_length] at po; dsimp only)
   | (refine wp_append_row _ (by rfl) (.tmp 24) (.tmp 30) 26 rfl w.heap.size w.heap.size 4 i0 (.bool false) 1 Tryz.underlying26 hi hz0 hz1 hz2 rfl _ _ _ rfl pu _ _ _ rfl po (bls_one _) (by simp only [maxLen]; omega) (by omega) kk.size ?_; intro v3 w3 own3 hg3 hw3; have U3 := Lib.hid (below_app kk pu own3 hg3 (by rw [List.length_append,un_length,ofN_length])); obtain ⟨a3,cap3,rfl⟩ := own_shape own3; clear own3 hg3 hw3))
 all_goals
  go_wp2_with fail
  go_ret
  rw [HC.out]
  exact U3.out
set_option maxRecDepth 100000 in
theorem dbits_una (v : Nat) (hv : v ≤ 65535) (w : World) : Calls Tryz.prog 90 #[.agg #[.int .u8 0, .int .u64 0], .int .u64 (v : Int)] w (RowPost (cb .una v) w) := by
 have LOW := Lib.hid (fun W => low_any (v + 1) (by omega) (by omega) W)
 have hlog : Nat.log2 (v + 1) < 20 := log_lt (by rw [show (2 : Nat) ^ 20 = 1048576 from rfl]; omega)
 obtain ⟨b,hb⟩ : ∃ b,Nat.log2 (v + 1) = b := ⟨_,rfl⟩
 obtain ⟨n,hn⟩ : ∃ n,v + 1 = n := ⟨_,rfl⟩
 rw [hn] at LOW hb hlog
 rw [hb] at LOW hlog
 have hnI : (v : Int) + 1 = (n : Int) := by omega
 have UN := Lib.hid (fun W => unary_any v hv W)
 rw [cb_una]
 clear hb hn
 go_enter Tryz.func90,Tryz.ntmps90
 go_wp2_with fail
 with_reducible refine (LOW.out _).mono ?_
 rintro e w2 ⟨rfl,rfl⟩
 go_wp2_with fail
 with_reducible refine (UN.out _).mono ?_
 rintro e w2 ⟨v2,rfl,o2,k2⟩
 have kk : Below w.heap.size w (w.alloc (.cells #[.int .u8 0,.int .u64 0] 104)) := (Below.refl _ _).alloc (Nat.le_refl _) _
 have pu := own_base o2 kk.size
 have kk := kk.trans (k2.mono kk.size)
 clear o2 k2
 go_wp2_with fail
 go_ret
 exact ⟨_,rfl,pu,kk⟩
set_option maxRecDepth 100000 in
set_option maxHeartbeats 3200000 in
theorem dbits_zet (k v : Nat) (hk1 : 1 ≤ k) (hk2 : k ≤ 16) (hv : v ≤ 1000000) (w : World) : Calls Tryz.prog 90 #[.agg #[.int .u8 3, .int .u64 (k : Int)], .int .u64 (v : Int)] w (RowPost (cb (.zet k) v) w) := by
 obtain ⟨i0,hi,hz0,hz1,hz2⟩ := info_parts Tryz.infoBool
 have LOW := Lib.hid (fun W => low_any (v + 1) (by omega) (by omega) W)
 have hlog : Nat.log2 (v + 1) < 20 := log_lt (by rw [show (2 : Nat) ^ 20 = 1048576 from rfl]; omega)
 obtain ⟨p1,p2⟩ := zet_parts k v hk1
 have HC := Lib.hid (cb_zet k v)
 obtain ⟨b,hb⟩ : ∃ b,Nat.log2 (v + 1) = b := ⟨_,rfl⟩
 obtain ⟨n,hn⟩ : ∃ n,v + 1 = n := ⟨_,rfl⟩
 rw [hb,hn] at HC p1 p2
 rw [hn] at LOW hb hlog
 rw [hb] at LOW hlog
 have hnI : (v : Int) + 1 = (n : Int) := by omega
 obtain ⟨h,hh⟩ : ∃ h,b / k = h := ⟨_,rfl⟩
 rw [hh] at p1 p2 HC
 have hhk : h * k <= b := by rw [<- hh]; exact Nat.div_mul_le_self b k
 have hhb : h <= b := by rw [<- hh]; exact Nat.div_le_self b k
 obtain ⟨m,hm⟩ : ∃ m,h * k = m := ⟨_,rfl⟩
 have hm1 : (h + 1) * k = m + k := by rw [Nat.add_mul,hm,Nat.one_mul]
 rw [hm1,hm] at p1 HC
 rw [hm] at p2 hhk
 have g1 : m + k <= 62 := by clear p1 p2 HC LOW; omega
 have g2 : m <= 62 := by clear p1 p2 HC LOW; omega
 have g3 : h <= 9223372036854775806 := by clear p1 p2 HC LOW; omega
 have g4 : h <= 65535 := by clear p1 p2 HC LOW; omega
 have g5 : n <= 9223372036854775808 := by clear p1 p2 HC LOW; omega
 have g6 : k <= 9223372036854775807 := by clear p1 p2 HC LOW; omega
 have hh20 : h < 20 := by clear p1 p2 HC LOW; omega
 obtain ⟨fr,hfr⟩ : ∃ fr,2 ^ m = fr := ⟨_,rfl⟩
 obtain ⟨tt,htt⟩ : ∃ tt,2 ^ (m + k) = tt := ⟨_,rfl⟩
 have htt2 : tt <= 9223372036854775808 := htt ▸ pow63 (Nat.le_trans g1 (by decide))
 have hcl : clog (tt - fr) <= 62 := clog_pow (Nat.le_trans (Nat.sub_le _ _) (htt ▸ Nat.pow_le_pow_right (by decide) g1))
 have hfr2 : fr <= tt := by rw [<- hfr,<- htt]; exact Nat.pow_le_pow_right (by decide) (Nat.le_add_right _ _)
 rw [hfr,htt] at p1 HC
 rw [hfr] at p2
 have ML : (mini (n - fr) (tt - fr)).length <= 62 := Nat.le_trans (mini_le _ _) hcl
 have UN := Lib.hid (fun W => unary_any h g4 W)
 have MN := Lib.hid (fun W => minimal_any (n - fr) (tt - fr) (Nat.lt_of_le_of_lt (Nat.zero_le _) p1) hcl p1 W)
 obtain ⟨M,hM⟩ : ∃ M,mini (n - fr) (tt - fr) = M := ⟨_,rfl⟩
 rw [hM] at ML MN HC
 have f0 := w64_nat k g6
 have f0' := i64_nat k g6
 have f1 := quo_nat b k h hh
 have f2 := int_nz k hk1
 have f3 := i64_mul h k m hm (Nat.le_trans g2 (by decide))
 have f3' : IntKind.i64.wrap (((h : Int) + 1) * (k : Int)) = ((m + k : Nat) : Int) := i64_mul (h + 1) k (m + k) hm1 (Nat.le_trans g1 (by decide))
 have f5 := u64_pow m fr hfr (Nat.le_trans hfr2 htt2)
 have f8 := u64_pow (m + k) tt htt htt2
 have f6 := u64_sub n fr p2 g5
 have f9 := u64_sub tt fr hfr2 htt2
 have f10 := i64_nat h (Nat.le_succ_of_le g3)
 have f10' : IntKind.i64.wrap ((h : Int) + 1) = ((h + 1 : Nat) : Int) := i64_nat (h + 1) (Nat.succ_le_succ g3)
 have f12 : IntKind.u64.wrap (h : Int) = (h : Int) := IntWalk.u64_in _ ⟨Int.natCast_nonneg h,Int.le_trans (Int.ofNat_le.2 g4) (by decide)⟩
 clear hb hn p1 p2 hh hhk hhb hm hm1 hfr htt hcl hM htt2 hfr2 g3 g4 g5 g6 hlog
 go_enter Tryz.func90,Tryz.ntmps90
 go_wp2_with fail
 with_reducible refine (LOW.out _).mono ?_
 rintro e w2 ⟨rfl,rfl⟩
 go_wp2_with fail
 rw [f8]
 with_reducible refine (UN.out _).mono ?_
 rintro e w2 ⟨v2,rfl,o2,k2⟩
 have kk : Below w.heap.size w (w.alloc (.cells #[.int .u8 3,.int .u64 (k : Int)] 104)) := (Below.refl _ _).alloc (Nat.le_refl _) _
 have pu := own_base o2 kk.size
 have kk := kk.trans (k2.mono kk.size)
 clear o2 k2
 rw [un_length] at pu
 go_wp2_with fail
 with_reducible refine (MN.out _).mono ?_
 rintro e w3 ⟨v3,rfl,o3,k3⟩
 have po := own_base o3 kk.size
 have pu := own_below pu k3
 have kk := kk.trans (k3.mono kk.size)
 clear o3 k3
 have C3 : h + 1 + M.length <= maxLen := by simp only [maxLen]; omega
 have C4 : (h + 1 + M.length) * 1 <= 140737488355328 := by omega
 go_wp2_with (at_builtin; refine wpList_append_row _ rfl _ _ 26 rfl w.heap.size w.heap.size 4 i0 _ 1 Tryz.underlying26 hi hz0 hz1 hz2 rfl _ _ _ rfl pu _ _ _ rfl po (bls_one _) C3 C4 kk.size ?_)
 intro v4 w4 own4 hg4 _
 have U4 := Lib.hid (below_app kk pu own4 hg4 (by rw [List.length_append,un_length]))
 obtain ⟨a4,cap4,rfl⟩ := own_shape own4
 clear own4 hg4
 go_wp2_with fail
 go_ret
 rw [HC.out]
 exact U4.out
set_option maxRecDepth 100000 in
theorem gamma_any (v : Nat) (hv : v ≤ 1000000) (w : World) : Calls Tryz.prog 89 #[.int .i64 (v : Int)] w (RowPost (cb .gam v) w) := by
 have f12 : IntKind.u64.wrap (v : Int) = (v : Int) := IntWalk.u64_in _ (by omega)
 have G := Lib.hid (fun W => dbits_gam v hv W)
 go_enter Tryz.func89,Tryz.ntmps89
 go_wp2_with fail
 with_reducible refine (G.out _).mono ?_
 rintro e w2 ⟨v2,rfl,o2,k2⟩
 obtain ⟨a2,c2,rfl⟩ := own_shape o2
 have o3 := Lib.hid (And.intro o2 k2)
 clear o2 k2
 go_wp2_with fail
 go_ret
 exact ⟨_,rfl,o3.out.1,o3.out.2⟩
/-! ### the plain law -/
theorem rise_len {n : Nat} {l : List Nat} (h : l.Pairwise (· < ·)) (hn : ∀ v ∈ l, v < n) : l.length ≤ n := by
 have key : ∀ (l : List Nat) (b : Nat),l.Pairwise (· < ·) -> (∀ v ∈ l,b <= v /\ v < n) -> b <= n -> l.length + b <= n := by
  intro l
  induction l with
  | nil => intro b _ _ h; simpa using h
  | cons a l ih =>
   intro b h1 h2 _
   obtain ⟨p1,p2⟩ := List.pairwise_cons.1 h1
   have ha := h2 a (List.mem_cons_self ..)
   have := ih (a + 1) p2 (fun v hv => ⟨p1 v hv,(h2 v (List.mem_cons_of_mem _ hv)).2⟩) (by omega)
   simp only [List.length_cons]
   omega
 have := key l 0 h (fun v hv => ⟨Nat.zero_le _,hn v hv⟩) (Nat.zero_le _)
 omega
/-! ### rows of lists -/
def GRow (ks : List (Nat × Obj)) (V : List Value) (G : List (List Nat)) : Prop := V.length = G.length ∧ ∀ i (h : i < G.length), ∃ s d, V[i]? = some (.slice s G[i].length d) ∧ G[i].length ≤ d ∧ Stands ks s G[i]
theorem GRow.nil (ks : List (Nat × Obj)) : GRow ks [] [] := ⟨rfl, fun i h => by cases h⟩
theorem GRow.more {ks ks' : List (Nat × Obj)} {V : List Value} {G : List (List Nat)} (h : GRow ks V G) (hs : ∀ p ∈ ks, p ∈ ks') : GRow ks' V G := ⟨h.1, fun i hi => by
 obtain ⟨s,d,h1,h2,h3⟩ := h.2 i hi
 exact ⟨s,d,h1,h2,h3.more hs⟩⟩
theorem GRow.snoc {ks : List (Nat × Obj)} {V : List Value} {G : List (List Nat)} (h : GRow ks V G) (l : List Nat) (s : Option Addr) (d : Nat) (hd : l.length ≤ d) (hs : Stands ks s l) : GRow ks (V ++ [.slice s l.length d]) (G ++ [l]) := by
 refine ⟨by rw [List.length_append,List.length_append,h.1]; rfl,fun i hi => ?_⟩
 rw [List.length_append,List.length_singleton] at hi
 by_cases hlt : i < G.length
 ·obtain ⟨s', d', h1,h2,h3⟩ := h.2 i hlt
  refine ⟨s', d', ?_,?_,?_⟩
  ·rw [List.getElem?_append_left (by rw [h.1]; exact hlt),List.getElem_append_left hlt]; exact h1
  ·rw [List.getElem_append_left hlt]; exact h2
  ·rw [List.getElem_append_left hlt]; exact h3
 ·obtain rfl : i = G.length := by omega
  refine ⟨s,d,?_,?_,?_⟩
  ·rw [List.getElem?_append_right (by rw [h.1]; exact Nat.le_refl _),h.1,Nat.sub_self,List.getElem_append_right (Nat.le_refl _)]; simp
  ·rw [List.getElem_append_right (Nat.le_refl _)]; simpa using hd
  ·rw [List.getElem_append_right (Nat.le_refl _)]; simpa using hs
/-! ### the lists so far, and one that grows -/
def ML (w0 : World) (ks : List (Nat × Obj)) (V : List Value) (v : Value) (L : List Nat) (u : Value) (W : World) : Prop :=
 LG 34 1 w0 ks V.length V v W /\ W.ownsRow w0.heap.size 77 1 u L.length (u32V L) /\ (∀ g,v.ownBlock = some g -> u.ownBlock ≠ some g) /\ ∀ p ∈ ks,some p.1 ≠ u.ownBlock
theorem Tryz.infoU32s : (Tryz.prog.info? 34).map (fun i => (i.zero, i.size, i.bytes)) = some (some (.slice none 0 0), 1, 24) := by kernel_rfl
theorem sum_app (a b : List Nat) : sum (a ++ b) = sum a + sum b := by
 induction a with
 | nil => show sum b = 0 + sum b; omega
 | cons x a ih => show x + sum (a ++ b) = x + sum a + sum b; rw [ih]; omega
theorem edges_take_le (G : List (List Nat)) (i : Nat) : edges (G.take i) ≤ edges G := by
 have e : edges G = edges (G.take i) + edges (G.drop i) := by
  unfold edges
  rw [<- sum_app,<- List.map_append,List.take_append_drop]
 omega
set_option maxRecDepth 100000 in
set_option maxHeartbeats 3200000 in
theorem graph_yes (w : World) (a : Option Addr) (G : List (List Nat)) (cap : Nat) (hA : LLs w a G) (hn : G.length ≤ 65536) (hr : ∀ l ∈ G, Ris l) (hv : ∀ l ∈ G, ∀ v ∈ l, v < G.length) (hE : edges G ≤ 1048576) :
  Calls Tryz.prog 62 #[.slice a G.length cap] w fun e w' => e = .returned (.bool true) /\ w = w' := by
 have HA := Lib.hid hA
 have HR := Lib.hid hr
 have HV := Lib.hid hv
 have HE := Lib.hid (fun i => Nat.le_trans (edges_take_le G i) hE)
 obtain ⟨n,hnn⟩ : ∃ n,G.length = n := ⟨_,rfl⟩
 have HN := Lib.hid hnn
 rw [hnn] at hn HV ⊢
 clear hA hr hv hnn hE
 go_enter Tryz.func62,Tryz.ntmps62
 go_wp2_with fail
 go_loopw [3,10] (fun v3 v10 wr => ∃ i : Nat,v10 = .int .i64 (i : Int) /\ i <= n /\ v3 = .int .i64 (edges (G.take i) : Int) /\ w = wr) (fun _ v10 _ => n - (intOf v10).toNat)
 case atStart => exact ⟨0,rfl,Nat.zero_le _,by rw [List.take_zero]; rfl,rfl⟩
 case round =>
  obtain ⟨i,rfl,hi,rfl,rfl⟩ := hrel
  have he9 := HE.out i
  obtain ⟨E,hEE⟩ : ∃ E,edges (G.take i) = E := ⟨_,rfl⟩
  have HEE := Lib.hid hEE
  rw [hEE] at he9 ⊢
  clear hEE
  by_cases hlt : i < n
  ·have hiG : i < G.length := by rw [HN.out]; exact hlt
   obtain ⟨g,o,s,d,rfl,hg,hc,hd,hs⟩ := HA.out.2 i hiG
   have hrl := HR.out _ (List.getElem_mem hiG)
   have hvl := HV.out _ (List.getElem_mem hiG)
   obtain ⟨l,hl⟩ : ∃ l,G[i] = l := ⟨_,rfl⟩
   have ES : Hid (edges (G.take (i + 1)) = E + l.length) := Lib.hid (by rw [List.take_succ_eq_append_getElem hiG,edges_snoc,HEE.out,hl])
   rw [hl] at hc hd hs hrl hvl
   have HRL := Lib.hid ((ris_iff l).1 hrl)
   have HVL := Lib.hid hvl
   have HS := Lib.hid hs
   have hm9 := hrl.len
   obtain ⟨m,hm⟩ : ∃ m,l.length = m := ⟨_,rfl⟩
   have HM := Lib.hid hm
   rw [hm] at hc hd hm9 ES
   have i1 : decide ((i : Int) < (n : Int)) = true := decide_eq_true (by omega)
   clear hl hm hs hrl hvl
   go_wp2_with fail
   go_loopw [20] (fun v20 wr => ∃ k : Nat,v20 = .int .i64 (k : Int) /\ k <= m /\ w = wr) (fun v20 _ => m - (intOf v20).toNat)
   case atStart => exact ⟨0,rfl,Nat.zero_le _,rfl⟩
   case round =>
    obtain ⟨k,rfl,hk,rfl⟩ := hrel
    by_cases hkt : k < m
    ·have hkl : k < l.length := by rw [HM.out]; exact hkt
     obtain ⟨g6,o6,rfl,hg6,hc6,hv6⟩ := HS.out.2 k hkl
     have hvn := HVL.out _ (List.getElem_mem hkl)
     have hrk := HRL.out k hkl
     obtain ⟨v,hv⟩ : ∃ v,l[k] = v := ⟨_,rfl⟩
     rw [hv] at hc6 hv6 hvn hrk
     have k1 : decide ((k : Int) < (m : Int)) = true := decide_eq_true (by omega)
     have k2 : decide ((n : Int) <= (v : Int)) = false := decide_eq_false (by omega)
     have hv65 := hrk.1
     by_cases h0 : 0 < k
     ·obtain ⟨g7,o7,he,hg7,hc7,hv7⟩ := HS.out.2 (k - 1) (by omega)
      obtain ⟨rfl,rfl⟩ : g6 = g7 /\ o6 = o7 := by injection he with he; injection he with e1 e2; exact ⟨e1,e2⟩
      have huv := hrk.2 h0
      obtain ⟨u,hu⟩ : ∃ u,l[k - 1]'(by omega) = u := ⟨_,rfl⟩
      rw [hu] at hc7 hv7 huv
      obtain ⟨q,hq⟩ : ∃ q,k - 1 = q := ⟨_,rfl⟩
      rw [hq] at hc7
      have k3 : decide ((0 : Int) < (k : Int)) = true := decide_eq_true (by omega)
      have k3n : decide (0 < k) = true := decide_eq_true h0
      have k4 : decide ((v : Int) <= (u : Int)) = false := decide_eq_false (by omega)
      have k4n : decide (v <= u) = false := decide_eq_false (by omega)
      have w1 : IntKind.i64.wrap ((k : Int) - 1) = (q : Int) := by rw [IntWalk.i64_in _ (by omega)]; omega
      have q1 : (q : Int) < (m : Int) := by omega
      have q2 : (0 : Int) <= (q : Int) := Int.natCast_nonneg _
      clear hv hu he hq hrk
      go_wp2_with fail
      go_roundw
      case rel => exact ⟨k + 1,by go_num,by omega,by trivial⟩
      case measure => simp [intOf]; omega
     ·have k3 : decide ((0 : Int) < (k : Int)) = false := decide_eq_false (by omega)
      have k3n : decide (0 < k) = false := decide_eq_false h0
      clear hv hrk
      go_wp2_with fail
      go_roundw
      case rel => exact ⟨k + 1,by go_num,by omega,by trivial⟩
      case measure => simp [intOf]; omega
    ·have k1 : decide ((k : Int) < (m : Int)) = false := decide_eq_false (by omega)
     go_wp2_with fail
     go_roundw
     case rel => exact ⟨i + 1,by go_num,by omega,by rw [ES.out]; simp,by trivial⟩
     case measure => simp [intOf]; omega
  ·have i1 : decide ((i : Int) < (n : Int)) = false := decide_eq_false (by omega)
   have i2 : decide ((n : Int) <= 65536) = true := decide_eq_true (by omega)
   have i3 : decide ((E : Int) <= 1048576) = true := decide_eq_true (by omega)
   go_wp2_with fail
   go_ret
   exact ⟨rfl,rfl⟩
theorem Tryz.infoU64 : (Tryz.prog.info? 97).map (fun i => (i.zero, i.size, i.bytes)) = some (some (.int .u64 0), 1, 8) := by kernel_rfl
def u64V (l : List Nat) : List Value := l.map fun (v : Nat) => Value.int .u64 (v : Int)
theorem u64V_append (a b : List Nat) : u64V (a ++ b) = u64V a ++ u64V b := List.map_append
def EA (w : World) (b : Bp) (T : List Tk) (wb E : Nat) (l : Bits) (kb : Nat) (ls ks : List (Nat × Obj)) (va : Value) (A : List Nat) (W : World) : Prop :=
 W.ownsRow 0 97 1 va A.length (u64V A) /\ ∃ ka,KS w b T wb E 0 l none kb ls (ka ++ ks) W /\ (∀ g,va.ownBlock = some g -> ∃ o,(g,o) ∈ ka) /\ (∀ p ∈ ka,some p.1 = va.ownBlock) /\ ∀ p ∈ ls ++ ks,some p.1 ≠ va.ownBlock
section
variable {w W W' : World} {b : Bp} {T : List Tk} {wb E D : Nat} {l : Bits} {rd : Option (Nat × ByteArray × Nat)} {kb : Nat} {ls ks js : List (Nat × Obj)} {va : Value} {A : List Nat}
theorem KS.kb_lt (h : KS w b T wb E D l rd kb ls ks W) : kb < W.heap.size := by
 obtain ⟨row,h1,_⟩ := h
 exact lt_of_block (h1.row (List.mem_cons_self ..))
theorem KS.ls_lt (h : KS w b T wb E D l rd kb ls ks W) : ∀ p ∈ ls, p.1 < W.heap.size := fun p hp => by
 obtain ⟨row,h1,_⟩ := h
 exact lt_of_block (h1.row (b := p.1) (o := p.2) (List.mem_cons_of_mem _ (List.mem_append_left _ hp)))
theorem KS.more (h : KS w b T wb E D l rd kb ls ks W) (k : Below W.heap.size W W') (hj : ∀ p ∈ js, W.heap.size ≤ p.1 ∧ W'.heap[p.1]? = some p.2) : KS w b T wb E D l rd kb ls (js ++ ks) W' := by
 have hlt := h.kb_lt
 obtain ⟨row,h1,h2,h3⟩ := h
 refine ⟨row,(h1.more k hj).sub (fun p hp => ?_),fun p hp => ?_,h3⟩
 ·simp only [List.mem_cons,List.mem_append] at hp ⊢
  rcases hp with h | h | h | h
  ·exact .inr (.inl h)
  ·exact .inr (.inr (.inl h))
  ·exact .inl h
  ·exact .inr (.inr (.inr h))
 ·simp only [List.mem_append] at hp
  rcases hp with h | h | h
  ·exact h2 p (List.mem_append_left _ h)
  ·have := (hj p h).1
   omega
  ·exact h2 p (List.mem_append_right _ h)
theorem EA.start (h : KS w b T wb E 0 l none kb ls ks W) : EA w b T wb E l kb ls ks (.slice (some ⟨W.heap.size, 0, none⟩) 1 1) [0] (W.alloc (.cells #[.int .u64 0] 97)) := by
 have k : Below W.heap.size W (W.alloc (.cells #[.int .u64 0] 97)) := (Below.refl _ _).alloc (Nat.le_refl _) _
 have hr := heap_alloc_new W (.cells #[.int .u64 0] 97)
 refine ⟨⟨rfl,.inr ⟨W.heap.size,1,_,rfl,Nat.zero_le _,hr,Nat.le_refl _,by decide,rfl,rfl⟩⟩,[(W.heap.size,.cells #[.int .u64 0] 97 (0,0))],h.more (js := [(W.heap.size,.cells #[.int .u64 0] 97 (0,0))]) k (fun p hp => by rw [List.mem_singleton.1 hp]; exact ⟨Nat.le_refl _,hr⟩),fun g hg => ⟨.cells #[.int .u64 0] 97 (0,0),by injection hg with hg; subst hg; exact List.mem_singleton.2 rfl⟩,fun p hp => by rw [List.mem_singleton.1 hp]; rfl,fun p hp e => ?_⟩
 have e : some p.1 = some W.heap.size := e
 injection e with e
 have : p.1 < W.heap.size := by
  rcases List.mem_append.1 hp with hp | hp
  ·exact h.ls_lt p hp
  ·exact lt_of_block (h.has hp)
 omega
theorem EA.below (h : EA w b T wb E l kb ls ks va A W) : Below w.heap.size w W := by
 obtain ⟨_,ka,h1,_⟩ := h
 exact h1.below
theorem EA.has (h : EA w b T wb E l kb ls ks va A W) {p : Nat × Obj} (hp : p ∈ ks) : W.heap[p.1]? = some p.2 := by
 obtain ⟨_,ka,h1,_⟩ := h
 exact h1.has (List.mem_append_right _ hp)
theorem EA.add {a : Option Addr} {succ : List Nat} {cap : Nat} (h : EA w b T wb E l kb ls ks va A W) (hG : GL w) (hb : b.p.ok) (hdp : b.depth ≤ 16) (hx : T.length < 65536) (hs : Ris succ) (hT : TOk T) (hc : succ.length ≤ cap) (hA : Seen w ks a succ) (hE : E + succ.length ≤ 1048576) (hl : l.length + (addB b T succ).length ≤ 134217728) :
  Calls Tryz.prog 37 #[.pointer (some ⟨kb,0,none⟩),.slice a succ.length cap] W fun e w' => e = .returned (.tuple #[.int .i64 ((pickB b T succ).2.1 : Int),.int .i64 ((pickB b T succ).1 : Int),.int .i64 0]) /\ ∃ ls', EA w b (T ++ [putB b T succ]) wb (E + succ.length) (l ++ addB b T succ) kb ls' ks va A w' := by
 obtain ⟨h1,ka,h2,h3,h4,h5⟩ := h
 refine (add_yes h2 hG hb hdp hx hs hT hc (hA.more (fun p hp => List.mem_append_right _ hp)) hE hl).mono ?_
 rintro e w' ⟨rfl,ls', h6,h7⟩
 refine ⟨rfl,ls', own_same2 h1 (fun g hg => ?_),ka,h6,h3,h4,fun p hp => ?_⟩
 ·obtain ⟨o,ho⟩ := h3 g hg
  rw [h2.has (p := (g,o)) (List.mem_append_left _ ho),h6.has (p := (g,o)) (List.mem_append_left _ ho)]
 ·rcases List.mem_append.1 hp with hp | hp
  ·rcases h7 p hp with h | h
   ·exact h5 p (List.mem_append_left _ h)
   ·intro e
    have := (h1.lt p.1 e.symm).2
    omega
  ·exact h5 p (List.mem_append_right _ hp)
theorem EA.push (h : EA w b T wb E l kb ls ks va A W) {W2 : World} {v' : Value} (o : Obj) (z : Nat) (own : W2.ownsRow 0 97 1 v' (A.length + 1) (u64V A ++ [.int .u64 (z : Int)])) (hg : (W.alloc o).grownBy W2 va.ownBlock)
  (hw : v'.ownBlock = va.ownBlock \/ v'.ownBlock = some (W.heap.size + 1)) : EA w b T wb E l kb ls ks v' (A ++ [z]) W2 := by
 obtain ⟨h1,ka,h2,h3,h4,h5⟩ := h
 have h2n := h2.next ((Below.refl _ _).alloc (Nat.le_refl W.heap.size) o)
 have hkb := h2.kb_lt
 obtain ⟨k2,hk1,hk2,hk3⟩ := own_ks own
 obtain ⟨row,f1,f2,f3⟩ := h2n
 have hz : (W.alloc o).heap.size = W.heap.size + 1 := by simp
 have kbr : some kb ≠ va.ownBlock := fun e => by
  obtain ⟨o', ho'⟩ := h3 kb e.symm
  exact f2 _ (List.mem_append_right _ (List.mem_append_left _ ho')) rfl
 have old : ∀ p ∈ ls ++ ks,p.1 < W.heap.size := fun p hp => by
  rcases List.mem_append.1 hp with hp | hp
  ·exact h2.ls_lt p hp
  ·exact lt_of_block (h2.has (List.mem_append_right _ hp))
 have new : ∀ g,g < W.heap.size -> some g ≠ va.ownBlock -> some g ≠ v'.ownBlock := fun g hl hne => own_new hw (by omega) hne
 refine ⟨by rw [u64V_append,List.length_append]; exact own,k2,⟨row,f1.grown hg (fun g e => ?_) (fun p hp => ?_),fun p hp => ?_,f3⟩,hk1,hk2,fun p hp => new _ (old p hp) (h5 p hp)⟩
 ·obtain ⟨o', ho'⟩ := h3 g e
  exact ⟨o', List.mem_cons_of_mem _ (List.mem_append_right _ (List.mem_append_left _ ho'))⟩
 ·simp only [List.mem_cons,List.mem_append] at hp
  rcases hp with rfl | hp | hp | hp
  ·exact .inl ⟨List.mem_cons_self ..,kbr⟩
  ·exact .inl ⟨List.mem_cons_of_mem _ (List.mem_append_left _ hp),h5 p (List.mem_append_left _ hp)⟩
  ·refine .inr ⟨?_,hk3 p hp⟩
   rcases hw with h | h
   ·exact .inl ((hk2 p hp).trans h)
   ·have := (hk2 p hp).trans h
    injection this with this
    exact .inr (by omega)
  ·exact .inl ⟨List.mem_cons_of_mem _ (List.mem_append_right _ (List.mem_append_right _ hp)),h5 p (List.mem_append_right _ hp)⟩
 ·simp only [List.mem_append] at hp
  rcases hp with hp | hp | hp
  ·exact f2 p (List.mem_append_left _ hp)
  ·intro e
   have e2 := hk2 p hp
   rw [e] at e2
   exact new kb hkb kbr e2
  ·exact f2 p (List.mem_append_right _ (List.mem_append_right _ hp))
theorem EA.bits (h : EA w b T wb E l kb ls ks va A W) (hD : l.length ≤ 9223372036854775807) : Calls Tryz.prog 40 #[.pointer (some ⟨kb, 0, none⟩)] W fun e w' => e = .returned (.int .i64 (l.length : Int)) ∧ EA w b T wb E l kb ls ks va A w' := by
 obtain ⟨h1,ka,h2,h3,h4,h5⟩ := h
 refine (h2.bits (by omega)).mono ?_
 rintro e w' ⟨rfl,h6⟩
 refine ⟨by rw [Nat.zero_add],own_same2 h1 (fun g hg => ?_),ka,h6,h3,h4,h5⟩
 obtain ⟨o,ho⟩ := h3 g hg
 rw [h2.has (p := (g,o)) (List.mem_append_left _ ho),h6.has (p := (g,o)) (List.mem_append_left _ ho)]
theorem EA.text (h : EA w b T wb E l kb ls ks va A W) : Calls Tryz.prog 43 #[.pointer (some ⟨kb, 0, none⟩)] W fun e w' => e = .returned (.tuple #[.string (txt (packN l)), .int .i64 0]) ∧ EA w b T wb E l kb ls ks va A w' := by
 obtain ⟨h1,ka,h2,h3,h4,h5⟩ := h
 refine h2.text.mono ?_
 rintro e w' ⟨rfl,h6⟩
 refine ⟨rfl,own_same2 h1 (fun g hg => ?_),ka,h6,h3,h4,h5⟩
 obtain ⟨o,ho⟩ := h3 g hg
 rw [h2.has (p := (g,o)) (List.mem_append_left _ ho),h6.has (p := (g,o)) (List.mem_append_left _ ho)]
end
theorem FS.decode4 {w W : World} {rb a : Nat} {s : ByteArray} {wr : Option (Nat × Bits)} {ks : List (Nat × Obj)} (h : FS w wr (some (rb, s, a)) ks W) (hG : GL w) (xv n deg r : Nat) (p : Pr) (hx : xv < 65536) (hn : n ≤ 65536) (hd : deg ≤ 65536) (hr : r ≤ p.win) (hp : p.ok)
  (ar : Option Addr) (ref : List Nat) (cap : Nat) (hcap : ref.length <= cap) (hris : Ris ref) (hr0 : 0 < r \/ ref = []) (hA : LV W ar ref) (hAk : ∀ g o,ar = some ⟨g,o,none⟩ -> 0 < ref.length -> g < w.heap.size \/ ∃ o', (g,o') ∈ ks) (q : List Nat × Nat) (hq : dec (unpack (nats s)) xv n deg ref r p a = some q) :
  Calls Tryz.prog 16 #[.pointer (some ⟨rb,0,none⟩),.int .i64 (xv : Int),.int .i64 (n : Int),.agg #[.int .i64 (deg : Int),.int .i64 (r : Int)],.slice ar ref.length cap,parV (p.win : Int) (p.itv : Int) (p.zet : Int)] W fun e w' =>
   ∃ v kv,e = .returned (.tuple #[v,.int .i64 0]) /\ w'.ownsRow 0 77 1 v q.1.length (u32V q.1) /\ (∀ g,v.ownBlock = some g -> ∃ o,(g,o) ∈ kv) /\ (∀ p ∈ kv,some p.1 = v.ownBlock /\ W.heap.size <= p.1) /\ FS w wr (some (rb,s,q.2)) (kv ++ ks) w' := by
 have kb := h.below
 obtain ⟨x,hf,hw,hrd,hk⟩ := h
 obtain ⟨m,hm0,hm⟩ := fresh x 100 W.heap.size
 have e0 : x 0 = 100 := hf.col 0 (World.block_lt_of_cell? _ _ hG.g0)
 have e1 : x 1 = 100 := hf.col 1 (World.block_lt_of_cell? _ _ hG.u0)
 have hre : RE x 5 1 m W rb s a [] W := RE.start (hrd _ rfl) (Below.refl _ _) [] (fun p hp => by cases hp)
 refine (decode_any x 5 1 m (by decide) (by omega) (by omega) W (hG.below kb) (by unfold GlC; rw [e0,e1]; omega) rb s a [] W hre xv n deg r p hx hn hd hr hp ar ref cap hcap hris hr0 hA (fun g o e h0 => ?_)).mono ?_
 ·have hc : x g = 100 \/ x g = 4 := by
   rcases hAk g o e h0 with h | ⟨o', h⟩
   ·exact .inl (hf.col g h)
   ·exact .inr (hk _ h).1
  rcases hc with hc | hc <;> · rw [hc]; omega
 ·intro e w' hD
  rw [hq] at hD
  obtain ⟨v,rfl,h1,kv,h2,h3,_,x', f2,hr2,hk2⟩ := hD
  have hnew : ∀ p ∈ kv,W.heap.size <= p.1 := fun p hp => by
   rcases Nat.lt_or_ge p.1 W.heap.size with hl | hl
   ·have c1 := f2.col p.1 hl
    have c2 := (hk2 p (List.mem_append_left _ hp)).1
    have := hm p.1 hl
    omega
   ·exact hl
  have f3 : Fr x (fun b => if b < W.heap.size then x b else if some b = v.ownBlock then 4 else 6) (fun c => c = 5 \/ c = 1 \/ c = 4 \/ c = 6) W w' := ⟨f2.os,f2.tape,f2.output,f2.size,fun b hb => if_pos hb,fun b hb _ => by
   show (if b < W.heap.size then x b else if some b = v.ownBlock then 4 else 6) = 5 \/ (if b < W.heap.size then x b else if some b = v.ownBlock then 4 else 6) = 1 \/ (if b < W.heap.size then x b else if some b = v.ownBlock then 4 else 6) = 4 \/ (if b < W.heap.size then x b else if some b = v.ownBlock then 4 else 6) = 6
   rw [if_neg (by omega)]
   split
   ·exact .inr (.inr (.inl rfl))
   ·exact .inr (.inr (.inr rfl)),fun b hb hC => f2.old b hb (fun hc => by
    have := hm b hb
    rcases hc with hc | hc | hc
    ·exact hC (.inl hc)
    ·exact hC (.inr (.inl hc))
    ·omega)⟩
  obtain ⟨r1,r2,r3⟩ := hrd _ rfl
  have hrlt := lt_of_block r1
  refine ⟨v,kv,rfl,h1,h2,fun p hp => ⟨h3 p hp,hnew p hp⟩,_,hf.trans (f3.mono (fun c hc => by show c < 50; omega)),fun q' e => (hw q' e).frame f3 (by decide),fun q' e => ?_,fun p hp => ?_⟩
  ·cases e
   exact ⟨hr2.1,(if_pos hrlt).trans r2,hr2.2.2⟩
  ·rcases List.mem_append.1 hp with hp | hp
   ·refine ⟨?_,(hk2 p (List.mem_append_left _ hp)).2⟩
    show (if p.1 < W.heap.size then x p.1 else if some p.1 = v.ownBlock then 4 else 6) = 4
    rw [if_neg (by have := hnew p hp; omega),if_pos (h3 p hp)]
   ·obtain ⟨c1,c2⟩ := hk p hp
    have hl := lt_of_block c2
    refine ⟨(if_pos hl).trans c1,(f2.old p.1 hl (by rw [c1]; omega)).trans c2⟩
def readB (b : Bp) (n : Nat) (B : Bits) (f : Nat) : Nat → Option (List Tk × Nat)
 | 0 => some ([],f)
 | k + 1 => (readB b n B f k).bind fun s => (nextB b s.1 n B s.2).bind fun q => if edges ((s.1 ++ [q.1]).map (·.1)) <= 1048576 then some (s.1 ++ [q.1],q.2) else none
def rplace (b : Bp) (n : Nat) (B : Bits) (f i : Nat) : Nat := match readB b n B f i with
 | some s => s.2 - f
 | none => 0
def rplaces (b : Bp) (n : Nat) (B : Bits) (f m : Nat) : List Nat := (List.range m).map (rplace b n B f)
theorem rplaces_succ (b : Bp) (n : Nat) (B : Bits) (f m : Nat) : rplaces b n B f (m + 1) = rplaces b n B f m ++ [rplace b n B f m] := by
 unfold rplaces
 rw [List.range_succ,List.map_append]
 rfl
theorem rplaces_length (b : Bp) (n : Nat) (B : Bits) (f m : Nat) : (rplaces b n B f m).length = m := by unfold rplaces; rw [List.length_map, List.length_range]
theorem rplaces_one (b : Bp) (n : Nat) (B : Bits) (f : Nat) : rplaces b n B f 1 = [0] := by
 show [rplace b n B f 0] = [0]
 unfold rplace readB
 simp
theorem hread_some {win a : Nat} {B : Bits} {q : Nat × Nat × Nat} (h : hread win B a = some q) : a ≤ q.2.2 ∧ q.1 ≤ 65536 ∧ q.2.1 ≤ win := by
 unfold hread at h
 obtain ⟨q1,h1,h⟩ := Option.bind_eq_some_iff.1 h
 split at h
 ·obtain ⟨q2,h2,h⟩ := Option.bind_eq_some_iff.1 h
  split at h
  ·rename_i hc
   injection h with h
   subst h
   exact ⟨by dsimp only; omega,hc.1,hc.2⟩
  ·cases h
 ·split at h
  ·rename_i hc
   injection h with h
   subst h
   exact ⟨by dsimp only; omega,hc,Nat.zero_le _⟩
  ·cases h
theorem hread_end {win a : Nat} {B : Bits} {q : Nat × Nat × Nat} (h : hread win B a = some q) (ha : a ≤ B.length) : q.2.2 ≤ B.length := by
 unfold hread at h
 obtain ⟨q1,h1,h⟩ := Option.bind_eq_some_iff.1 h
 have b1 := (rd_bound .gam (by trivial) h1).2
 rw [List.length_drop] at b1
 split at h
 ·obtain ⟨q2,h2,h⟩ := Option.bind_eq_some_iff.1 h
  have b2 := (rd_bound .una (by trivial) h2).2
  rw [List.length_drop] at b2
  split at h
  ·injection h with h
   subst h
   dsimp only
   omega
  ·cases h
 ·split at h
  ·injection h with h
   subst h
   dsimp only
   omega
  ·cases h
theorem dec_some {B : Bits} {x n deg : Nat} {ref : List Nat} {r : Nat} {p : Pr} (hp : p.ok) {a : Nat} {q : List Nat × Nat} (ha : a ≤ B.length) (h : dec B x n deg ref r p a = some q) : q.1.Pairwise (· < ·) ∧ q.1.length = deg ∧ (∀ v ∈ q.1, v < n) ∧ a ≤ q.2 := by
 unfold dec at h
 obtain ⟨⟨c,l,z,a'⟩,h1,h⟩ := Option.bind_eq_some_iff.1 h
 have k := pars_le hp h1 ha
 split at h
 ·rename_i hc
  injection h with h
  subst h
  have pm := srtN_perm (c ++ l ++ z)
  exact ⟨hc.1,pm.length_eq.trans hc.2.1,fun v hv => hc.2.2.1 v (pm.mem_iff.1 hv),k.1⟩
 ·cases h
theorem nextB_some {b : Bp} (hb : b.p.ok) {T : List Tk} {n a : Nat} {B : Bits} {q : Tk × Nat} (hn : n ≤ 65536) (ha : a ≤ B.length) (h : nextB b T n B a = some q) : Ris q.1.1 ∧ q.1.1.length ≤ n ∧ (∀ v ∈ q.1.1, v < n) ∧ a ≤ q.2 := by
 unfold nextB at h
 obtain ⟨⟨deg,ref,a1⟩,hh,h⟩ := Option.bind_eq_some_iff.1 h
 obtain ⟨⟨byL,ch⟩,ht,h⟩ := Option.bind_eq_some_iff.1 h
 obtain ⟨⟨l,a2⟩,hdc,h⟩ := Option.bind_eq_some_iff.1 h
 injection h with h
 subst h
 have h1 := (hread_some hh).1
 have h2 := hread_end hh ha
 dsimp only at h1 h2 hdc ⊢
 obtain ⟨d1,d2,d3,d4⟩ := dec_some hb h2 hdc
 dsimp only at d1 d2 d3 d4
 exact ⟨⟨d1,fun v hv => by have := d3 v hv; omega⟩,rise_len d1 d3,d3,by omega⟩
theorem readB_some {b : Bp} (hb : b.p.ok) {n f : Nat} {B : Bits} (hn : n ≤ 65536) (hf : f ≤ B.length) : ∀ k s, readB b n B f k = some s → s.2 ≤ B.length → s.1.length = k ∧ TOk s.1 ∧ f ≤ s.2 ∧ edges (s.1.map (·.1)) ≤ 1048576 ∧ (∀ t ∈ s.1, t.1.length ≤ n)
 | 0,s,h,_ => by
  injection h with h
  subst h
  exact ⟨rfl,(fun t ht => nomatch ht : TOk []),Nat.le_refl _,Nat.zero_le _,(fun t ht => nomatch ht : ∀ t ∈ ([] : List Tk),t.1.length <= n)⟩
 | k + 1,s,h,hs => by
  unfold readB at h
  obtain ⟨s0,h0,h⟩ := Option.bind_eq_some_iff.1 h
  obtain ⟨q,hq,h⟩ := Option.bind_eq_some_iff.1 h
  split at h
  ·rename_i hE
   injection h with h
   subst h
   dsimp only at hs ⊢
   have ha : s0.2 <= B.length := by
    rcases Nat.lt_or_ge B.length s0.2 with hl | hl
    ·exfalso
     unfold nextB at hq
     obtain ⟨⟨deg,ref,a1⟩,hh,hq⟩ := Option.bind_eq_some_iff.1 hq
     unfold hread at hh
     obtain ⟨q1,h1,hh⟩ := Option.bind_eq_some_iff.1 hh
     have b1 := (rd_bound .gam (by trivial) h1).2
     have b2 := rd_pos .gam h1
     rw [List.length_drop] at b1
     omega
    ·exact hl
   obtain ⟨i1,i2,i3,i4,i5⟩ := readB_some hb hn hf k s0 h0 ha
   obtain ⟨n1,n2,n3,n4⟩ := nextB_some hb hn ha hq
   refine ⟨by rw [List.length_append,i1]; rfl,fun t ht => ?_,by omega,hE,fun t ht => ?_⟩
   ·rcases List.mem_append.1 ht with ht | ht
    ·exact i2 t ht
    ·rw [List.mem_singleton.1 ht]; exact n1
   ·rcases List.mem_append.1 ht with ht | ht
    ·exact i5 t ht
    ·rw [List.mem_singleton.1 ht]; exact n2
  ·cases h
theorem readB_none {b : Bp} {n f : Nat} {B : Bits} {k m : Nat} (h : readB b n B f k = none) (hm : k ≤ m) : readB b n B f m = none := by
 induction m with
 | zero => rw [Nat.le_zero.1 hm] at h; exact h
 | succ m ih =>
  rcases Nat.lt_or_ge k (m + 1) with hl | hl
  ·unfold readB
   rw [ih (by omega)]
   rfl
  ·rwa [show m + 1 = k by omega]
theorem readB_back {b : Bp} (hb : b.p.ok) (G : List (List Nat)) (h : ∀ l ∈ G, Ris l) (hn : G.length ≤ 65536) (hv : ∀ l ∈ G, ∀ v ∈ l, v < G.length) (hE : edges G ≤ 1048576) (R : Bits) : ∀ k, k ≤ G.length → readB b G.length ((stB b G).2 ++ R) 0 k = some ((stB b (G.take k)).1, (stB b (G.take k)).2.length)
 | 0,_ => by rw [List.take_zero]; rfl
 | k + 1,hk => by
  unfold readB
  rw [readB_back hb G h hn hv hE R k (by omega)]
  show (nextB b (stB b (G.take k)).1 G.length ((stB b G).2 ++ R) (stB b (G.take k)).2.length).bind _ = _
  rw [back_ok hb G h hn hv R k (by omega)]
  obtain ⟨_,_,e⟩ := stB_at b G k (by omega)
  have e1 : (stB b (G.take k)).1 ++ [putB b (stB b (G.take k)).1 G[k]] = (stB b (G.take (k + 1))).1 := by rw [e]; rfl
  show (if edges (((stB b (G.take k)).1 ++ [putB b (stB b (G.take k)).1 G[k]]).map (·.1)) <= 1048576 then _ else _) = _
  rw [e1,stB_map,if_pos (Nat.le_trans (edges_take_le G (k + 1)) hE)]
/-! ### rows of a call's own, each in blocks of its own -/
def KA (ka : List (Nat × Obj)) (v : Value) : Prop := (∀ g, v.ownBlock = some g → ∃ o, (g, o) ∈ ka) ∧ ∀ p ∈ ka, some p.1 = v.ownBlock
theorem KA.none : KA [] (.slice none 0 0) := ⟨fun g hg => (by cases hg), fun p hp => (by cases hp)⟩
def Off (K : List (Nat × Obj)) (v : Value) : Prop := ∀ p ∈ K, some p.1 ≠ v.ownBlock
theorem Off.none (K : List (Nat × Obj)) : Off K (.slice none 0 0) := fun p _ e => by cases e
theorem Off.app {a b : List (Nat × Obj)} {v : Value} (h : Off a v) (k : Off b v) : Off (a ++ b) v := fun p hp => (List.mem_append.1 hp).elim (h p) (k p)
theorem Off.sub {a b : List (Nat × Obj)} {v : Value} (h : Off a v) (k : ∀ p ∈ b, p ∈ a) : Off b v := fun p hp => h p (k p hp)
theorem KA.has {ka K : List (Nat × Obj)} {v : Value} {w W W' : World} {wr wr' : Option (Nat × Bits)} {rd rd' : Option (Nat × ByteArray × Nat)} {K' : List (Nat × Obj)} {T : TypeId} {sz n : Nat} {xs : List Value} (h : KA ka v) (f : FS w wr rd K W) (f' : FS w wr' rd' K' W') (hk : ∀ p ∈ ka, p ∈ K ∧ p ∈ K') (own : W.ownsRow 0 T sz v n xs) : W'.ownsRow 0 T sz v n xs :=
 own_same2 own (fun g hg => by
  obtain ⟨o,ho⟩ := h.1 g hg
  rw [f.row (hk _ ho).1,f'.row (hk _ ho).2])
theorem FS.push {w W W2 : World} {wr : Option (Nat × Bits)} {rd : Option (Nat × ByteArray × Nat)} {ka K : List (Nat × Obj)} {v v' : Value} {T : TypeId} {n : Nat} {xs : List Value} (h : FS w wr rd (ka ++ K) W) (ha : KA ka v) (hoff : Off K v) (hg : W.grownBy W2 v.ownBlock) (own : W2.ownsRow 0 T 1 v' n xs) (hw : v'.ownBlock = v.ownBlock ∨ v'.ownBlock = some W.heap.size) :
  ∃ k2,KA k2 v' /\ Off K v' /\ FS w wr rd (k2 ++ K) W2 /\ ∀ p ∈ k2,(∃ o,(p.1,o) ∈ ka) \/ W.heap.size <= p.1 := by
 obtain ⟨k2,hk1,hk2,hk3⟩ := own_ks own
 have old : ∀ p ∈ K,p.1 < W.heap.size := fun p hp => lt_of_block (h.row (b := p.1) (o := p.2) (List.mem_append_right _ hp))
 refine ⟨k2,⟨hk1,hk2⟩,fun p hp => own_new hw (old p hp) (hoff p hp),h.grown hg (fun g e => ?_) (fun p hp => ?_),fun p hp => ?_⟩
 ·obtain ⟨o,ho⟩ := ha.1 g e
  exact ⟨o,List.mem_append_left _ ho⟩
 ·rcases List.mem_append.1 hp with hp | hp
  ·refine .inr ⟨?_,hk3 p hp⟩
   rcases hw with e | e
   ·exact .inl ((hk2 p hp).trans e)
   ·have := (hk2 p hp).trans e
    injection this with this
    exact .inr (by omega)
  ·exact .inl ⟨List.mem_append_right _ hp,hoff p hp⟩
 ·rcases hw with e | e
  ·have := (hk2 p hp).trans e
   exact .inl (ha.1 _ this.symm)
  ·have := (hk2 p hp).trans e
   injection this with this
   exact .inr (by omega)
end Go.Proofs.YtflnpcgnenhogaaGreatDoor.ls
