/- Own lemmas, laid together. -/
import Derived.Test.YtflnpcgnenhogaaDoorBb32
import Derived.Test.YtflnpcgnenhogaaDoorBb24
import Derived.Deep.RegionLaw
namespace Go.Proofs.YtflnpcgnenhogaaDoor.ls
open Go.RowKit Go.Proofs.YtflnpcgnenhogaaDoor.own Go.Proofs.YtflnpcgnenhogaaDoor.bit

/-- a packer in memory, its writer, its lists, rows beside -/
def KS (w : World) (b : Bp) (T : List Tk) (wb E D : Nat) (l : Bits) (rd : Option (Nat × ByteArray × Nat)) (kb : Nat) (ls ks : List (Nat × Obj)) (W : World) : Prop :=
 ∃ row, FS w (some (wb, l)) rd ((kb, .cells row 156 (0, 0)) :: (ls ++ ks)) W ∧ (∀ p ∈ ls ++ ks, p.1 ≠ kb) ∧ PackRow b T wb E D row ls
/-- a list that a call made stands in a block of its own, or in none -/
theorem own_stands {W : World} {base : Nat} {v : Value} {l : List Nat} (h : W.ownsRow base 60 1 v l.length (u32V l)) (hl : l.length ≤ 65536) (hb : ∀ x ∈ l, x < 4294967296) : ∃ (kv : List (Nat × Obj)) (s : Option Addr) (d : Nat), v = .slice s l.length d ∧ l.length ≤ d ∧ Stands kv s l ∧ ∀ p ∈ kv, base ≤ p.1 ∧ W.heap[p.1]? = some p.2 := by
 rcases h.2 with ⟨rfl, h0⟩ | ⟨g, cap, cur, rfl, hbg, hg, hn, _, _, htake⟩
 ·have hl0 : l = [] := List.eq_nil_of_length_eq_zero h0
  subst hl0
  exact ⟨[], none, 0, rfl, Nat.le_refl _, fun W _ => LV.nil, fun p hp => by cases hp⟩
 ·refine ⟨[(g, .cells cur 60 (0, 0))], _, cap, rfl, hn, fun W' hW' => ⟨by omega, fun i hi => ?_⟩, fun p hp => by rw [List.mem_singleton.1 hp]; exact ⟨hbg, hg⟩⟩
  have hr := hW' _ (List.mem_singleton.2 rfl)
  refine ⟨g, 0, rfl, lt_of_block hr, ?_, hb _ (List.getElem_mem hi)⟩
  have hx : (u32V l)[i]? = some (.int .u32 (l[i] : Int)) := by unfold u32V; rw [List.getElem?_map, List.getElem?_eq_getElem hi]; rfl
  rw [← htake, List.getElem?_take_of_lt (by omega)] at hx
  rw [Nat.zero_add, cell_of_row _ _ _ _ _ _ hr, ← Array.getElem?_toList]
  exact hx
/-- append of a list that is only read, inside a drawn region -/
theorem wp_append_lv {P : Program} (w : World) {o : Oper} {a : Act} {K : Act → World → Prop} {Q : Exit → Act → World → Prop} {c : Bool} {E : Prop} (hc : c = true) (s x : Operand) (t : TypeId)
  (ho : o.op = .call { callee := .builtin .append, args := #[s, x], argTypes := #[t, t] })
  (base : Nat) (e : TypeId) (i : TypeInfo) (z : Value) (bytes : Nat) (ht : P.underlying t = some (.slice e)) (hi : P.info? e = some i) (hz : i.zero = some z)
  (hsize : i.size = 1) (hby : i.bytes = bytes) (hzs : z.cells.size = 1)
  (v : Value) (n : Nat) (xs : List Value) (hs : a.eval s = v) (hown : w.ownsRow base e 1 v n xs) (ao : Option Addr) (m cc : Nat) (l : List Nat) (hx : a.eval x = .slice ao m cc) (hm : l.length = m) (hLV : LV w ao l)
  (h63 : n + m ≤ maxLen) (hbytes : (n + m) * bytes ≤ 140737488355328) (hbase : base ≤ w.heap.size)
  (h : ∀ v' w', w'.ownsRow base e 1 v' (n + m) (xs ++ u32V l) → w.grownBy w' v.ownBlock → (v'.ownBlock = v.ownBlock ∨ v'.ownBlock = some w.heap.size) → K (a.put o.dst v') w') :
  if c = true then Oper.wp P o a w K Q else E := by
 rw [if_pos hc]
 by_cases h0 : 0 < m
 ·obtain ⟨g, of, rfl⟩ := hLV.addr (by omega)
  have hcl := hLV.cells m
  rw [List.take_of_length_le (by omega)] at hcl
  have hl : (u32V l).length = m * 1 := by rw [u32V, List.length_map, hm, Nat.mul_one]
  obtain ⟨v', w', hr, h2, h3, _⟩ := run_append_own (P := P) w base t o.type e i z 1 bytes ht hi hz hsize hby hzs (by decide) v n xs hown ⟨g, of, none⟩ m cc (u32V l) hl hcl (u32_one l) h63 hbytes hbase
  have h4 := append_where w base t o.type e i z 1 bytes ht hi hz hsize hby v n xs hown ⟨g, of, none⟩ m cc (u32V l) hl hcl (u32_one l) h63 hbytes h0 hr
  unfold Oper.wp execOp
  simp only [ho, resolve, invoke, builtin, Sem.run_bind, Sem.run_pure, Result.andThen_ok, List.map_toArray, List.map_cons, List.map_nil, hs, hx, hr]
  exact h v' w' h2 h3 h4
 ·obtain rfl : m = 0 := by omega
  obtain rfl : l = [] := List.eq_nil_of_length_eq_zero hm
  obtain ⟨av, cv, hv, hle⟩ := own_slice hown
  have hsrc : Src P i.size t (.slice ao 0 cc) 0 [] w := by
   cases ao with
   | none => exact Src.ofNil w ht cc
   | some ad => exact Src.ofSlice w ht _ 0 cc [] (by simp) (fun j u hu => by simp at hu) (fun u hu => by cases hu)
  have hr := run_append_nothing (P := P) w t t o.type e i ht hi av n cv hle (.slice ao 0 cc) hsrc
  unfold Oper.wp execOp
  subst hv
  simp only [ho, resolve, invoke, builtin, Sem.run_bind, Sem.run_pure, Result.andThen_ok, List.map_toArray, List.map_cons, List.map_nil, hs, hx, hr]
  refine h _ _ ?_ ⟨rfl, rfl, rfl, Nat.le_refl _, fun _ _ _ => rfl⟩ (.inl rfl)
  show w.ownsRow base e 1 _ (n + 0) (xs ++ [])
  rw [List.append_nil]
  exact hown
theorem Ring.agree {T : List Tk} {row row' : Array Value} {o : Nat} {ls : List (Nat × Obj)} (h : Ring T row o ls) (hs : row'.size = row.size) (he : ∀ j, o ≤ j → j < o + 35 → row'[j]? = row[j]?) : Ring T row' o ls := by
 obtain ⟨h1, h2, h3, h4⟩ := h
 refine ⟨by rw [hs]; exact h1, by rw [he _ (by omega) (by omega)]; exact h2, fun k hk => ?_, fun j hj hl => ?_⟩
 ·rw [he _ (by omega) (by omega), he _ (by omega) (by omega)]; exact h3 k hk
 ·rw [he _ (by omega) (by omega), he _ (by omega) (by omega)]; exact h4 j hj hl
theorem PackRow.put {b : Bp} {T : List Tk} {wb E D : Nat} {row : Array Value} {ls ls' : List (Nat × Obj)} (h : PackRow b T wb E D row ls) (t : Tk) (s : Option Addr) (d E' : Nat) (hd : t.1.length ≤ d) (hst : Stands ls' s t.1) (hls : ∀ p ∈ ls, p ∈ ls') :
  PackRow b (T ++ [t]) wb E' D ((putRow row 5 T.length (.slice s t.1.length d) (t.2 : Int)).setIfInBounds 41 (.int .i64 (E' : Int))) ls' := by
 have hz := h.size
 have hps : (putRow row 5 T.length (.slice s t.1.length d) (t.2 : Int)).size = 43 := by rw [putRow_size, hz]
 have low : ∀ j, j < 5 → ((putRow row 5 T.length (.slice s t.1.length d) (t.2 : Int)).setIfInBounds 41 (.int .i64 (E' : Int)))[j]? = row[j]? := fun j hj => by
  rw [Array.getElem?_setIfInBounds_ne (by omega), putRow_get _ (by omega), if_neg (by omega), if_neg (by omega), if_neg (by omega)]
 have high : ∀ j, 40 ≤ j → j < 43 → j ≠ 41 → ((putRow row 5 T.length (.slice s t.1.length d) (t.2 : Int)).setIfInBounds 41 (.int .i64 (E' : Int)))[j]? = row[j]? := fun j h1 h2 h3 => by
  rw [Array.getElem?_setIfInBounds_ne (by omega), putRow_get _ (by omega), if_neg (by omega), if_neg (by omega), if_neg (by omega)]
 exact ⟨by rw [Array.size_setIfInBounds, hps], by rw [low _ (by decide)]; exact h.p0, by rw [low _ (by decide)]; exact h.p1, by rw [low _ (by decide)]; exact h.p2, by rw [low _ (by decide)]; exact h.p3, by rw [low _ (by decide)]; exact h.p4,
  ((h.ring.more hls).put t s d hd hst).agree (by rw [Array.size_setIfInBounds]) (fun j h1 h2 => by rw [Array.getElem?_setIfInBounds_ne (by omega)]),
  by rw [high _ (by decide) (by decide) (by decide)]; exact h.w, by rw [Array.getElem?_setIfInBounds_self_of_lt (by omega)], by rw [high _ (by decide) (by decide) (by decide)]; exact h.d⟩
theorem TryS.enc {w W : World} {b : Bp} {T : List Tk} {wb E D : Nat} {l : Bits} {rd : Option (Nat × ByteArray × Nat)} {kb : Nat} {row : Array Value} {ls : List (Nat × Obj)} {bk bs bx bl br bb : Nat} {sv lv rv v u : Value} {K : List (Nat × Obj)} (h : TryS w b T wb E D l rd kb row ls bk bs bx bl br bb sv lv rv v u K W)
  (hG : GL w) (p : Pr) (x : Nat) (a : Option Addr) (succ : List Nat) (cap : Nat) (c : Option Addr) (ref : List Nat) (capb r : Nat) (hc : succ.length ≤ cap) (hcb : ref.length ≤ capb) (hm : MayN x succ ref r p) (hA : LV W a succ) (hB : LV W c ref) (hl : l.length + (lay x succ ref r p).length ≤ 134217728) :
  Calls Tryd.prog 11 #[.pointer (some ⟨wb, 0, none⟩), .int .i64 (x : Int), .slice a succ.length cap, .slice c ref.length capb, .int .i64 (r : Int), parV (p.win : Int) (p.itv : Int) (p.zet : Int)] W fun e w' =>
   e = .returned (.int .i64 0) ∧ TryS w b T wb E D (l ++ lay x succ ref r p) rd kb row ls bk bs bx bl br bb sv lv rv v u K w' := by
 have kb' := h.fs.below
 obtain ⟨y, hf, hw, hr, hk⟩ := h.fs
 refine (lenc_yes y 0 1 2 (by decide) (by decide) (by decide) p x W (hG.below kb') wb l a succ cap c ref capb r hc hcb hm hA hB hl (hw _ rfl)).mono ?_
 rintro e w' ⟨rfl, x', f2, hw2⟩
 exact ⟨rfl, ⟨x', hf.trans (f2.mono (fun c hc => by show c < 50; omega)), fun q e => by cases e; exact hw2, fun q e => rdc_frame (hr q e) f2 (by decide), rows_frame hk f2 (by decide)⟩, h.k, h.kk, h.ks, h.kx, h.kl, h.ne, h.row⟩
theorem TryS.cells2 {w W : World} {b : Bp} {T : List Tk} {wb E D : Nat} {l : Bits} {rd : Option (Nat × ByteArray × Nat)} {kb : Nat} {row : Array Value} {ls : List (Nat × Obj)} {bk bs bx bl br bb : Nat} {sv lv rv v u : Value} {K : List (Nat × Obj)} (h : TryS w b T wb E D l rd kb row ls bk bs bx bl br bb sv lv rv v u K W) :
  W.cell? ⟨kb, 40, none⟩ = some (.pointer (some ⟨wb, 0, none⟩)) ∧ W.cell? ⟨bb, 0, none⟩ = some v ∧ W.cell? ⟨bb, 1, none⟩ = some u ∧ W.cell? ⟨kb, 41, none⟩ = some (.int .i64 (E : Int)) := by
 have r3 := h.fs.row (List.mem_cons_of_mem _ (List.mem_cons_of_mem _ (List.mem_cons_self ..)))
 exact ⟨by rw [cell_of_row _ _ _ _ _ _ (h.has h.k)]; exact h.row.w, by rw [cell_of_row _ _ _ _ _ _ r3]; rfl, by rw [cell_of_row _ _ _ _ _ _ r3]; rfl, by rw [cell_of_row _ _ _ _ _ _ (h.has h.k)]; exact h.row.e⟩
/-- the answer of Add -/
def AddP (w : World) (N : Nat) (b : Bp) (T : List Tk) (wb E D : Nat) (l : Bits) (rd : Option (Nat × ByteArray × Nat)) (kb : Nat) (succ : List Nat) (ls ks : List (Nat × Obj)) (e : Ending) (w' : World) : Prop :=
 e = .returned (.tuple #[.int .i64 ((pickB b T succ).2.1 : Int), .int .i64 ((pickB b T succ).1 : Int), .int .i64 0]) ∧ ∃ ls', KS w b (T ++ [putB b T succ]) wb (E + succ.length) D (l ++ addB b T succ) rd kb ls' ks w' ∧ ∀ p ∈ ls', p ∈ ls ∨ N ≤ p.1
set_option maxRecDepth 100000 in
set_option maxHeartbeats 12800000 in
theorem add_yes {w W : World} {b : Bp} {T : List Tk} {wb E D : Nat} {l : Bits} {rd : Option (Nat × ByteArray × Nat)} {kb : Nat} {ls ks : List (Nat × Obj)} {a : Option Addr} {succ : List Nat} {cap : Nat}
  (h : KS w b T wb E D l rd kb ls ks W) (hG : GL w) (hb : b.p.ok) (hdp : b.depth ≤ 16) (hx : T.length < 65536) (hs : Ris succ) (hT : TOk T) (hc : succ.length ≤ cap) (hA : Seen w ks a succ) (hE : E + succ.length ≤ 1048576) (hl : l.length + (addB b T succ).length ≤ 134217728) :
  Calls Tryd.prog 48 #[.pointer (some ⟨kb, 0, none⟩), .slice a succ.length cap] W (AddP w W.heap.size b T wb E D l rd kb succ ls ks) := by
 obtain ⟨row, hF, hne, hR⟩ := h
 have hs9 := hs.len
 have HF := Lib.hid hF
 have HNE := Lib.hid hne
 have HR := Lib.hid hR
 have HS := Lib.hid hs
 have HTO := Lib.hid hT
 have HAS := Lib.hid hA
 obtain ⟨n, hn⟩ : ∃ n, succ.length = n := ⟨_, rfl⟩
 have HN := Lib.hid hn
 obtain ⟨nt, hnt⟩ : ∃ n, T.length = n := ⟨_, rfl⟩
 have HNT := Lib.hid hnt
 rw [hn] at hc hE hs9 ⊢
 rw [hnt] at hx
 have RK : Hid (∀ W' : World, W'.heap[kb]? = some (.cells row 156 (0, 0)) → W'.cell? ⟨kb, 39, none⟩ = some (.int .i64 (nt : Int)) ∧ W'.cell? ⟨kb, 41, none⟩ = some (.int .i64 (E : Int)) ∧ W'.cell? ⟨kb, 40, none⟩ = some (.pointer (some ⟨wb, 0, none⟩)) ∧
   W'.cell? ⟨kb, 0, none⟩ = some (.int .i64 (b.p.win : Int)) ∧ W'.cell? ⟨kb, 1, none⟩ = some (.int .i64 (b.depth : Int)) ∧ W'.cell? ⟨kb, 2, none⟩ = some (.int .i64 (b.p.itv : Int)) ∧ W'.cell? ⟨kb, 3, none⟩ = some (.int .i64 (b.p.zet : Int)) ∧ W'.cell? ⟨kb, 4, none⟩ = some (.int .i64 (b.cap : Int))) := Lib.hid (fun W' hW => by
  have e := fun j => cell_of_row W' kb j row 156 (0, 0) hW
  exact ⟨by rw [e, ← hnt]; exact hR.ring.2.1, by rw [e]; exact hR.e, by rw [e]; exact hR.w, by rw [e]; exact hR.p0, by rw [e]; exact hR.p1, by rw [e]; exact hR.p2, by rw [e]; exact hR.p3, by rw [e]; exact hR.p4⟩)
 clear hF hne hR hn hnt hs hT hA
 go_enter Tryd.func48, Tryd.ntmps48
 go_upto_region 1 with fail
 generalize hW : World.alloc (World.alloc (World.alloc W _) _) _ = W1
 obtain ⟨r1, r2, r3, k1⟩ := rows3 hW
 obtain ⟨K1, hK1⟩ : ∃ K, [(W.heap.size + 1 + 1, Obj.cells #[.int .i64 0] 3 (0, 0)), (W.heap.size + 1, Obj.cells #[.slice a n cap] 29 (0, 0)), (W.heap.size, Obj.cells #[.pointer (some ⟨kb, 0, none⟩)] 105 (0, 0))] ++ ((kb, .cells row 156 (0, 0)) :: (ls ++ ks)) = K := ⟨_, rfl⟩
 have F1 : Hid (FS w (some (wb, l)) rd K1 W1) := Lib.hid (by
  rw [← hK1]
  refine HF.out.more k1 (fun p hp => ?_)
  simp only [List.mem_cons, List.not_mem_nil, or_false] at hp
  rcases hp with rfl | rfl | rfl
  ·exact ⟨Nat.le_add_right _ 2, r3⟩
  ·exact ⟨Nat.le_add_right _ 1, r2⟩
  ·exact ⟨Nat.le_refl _, r1⟩)
 have c1 : W1.cell? ⟨W.heap.size, 0, none⟩ = some (.pointer (some ⟨kb, 0, none⟩)) := by rw [cell_of_row _ _ _ _ _ _ r1]; rfl
 obtain ⟨d1, d2, d3, p0, p1, p2, p3, p4⟩ := RK.out W1 ((k1.block _ (lt_of_block (HF.out.row (List.mem_cons_self ..)))).trans (HF.out.row (List.mem_cons_self ..)))
 have i1 : decide ((65536 : Int) ≤ (nt : Int)) = false := decide_eq_false (by omega)
 clear hW r1 r2 r3 k1
 go_wp2_with fail
 have F2 := Lib.hid (F1.out.add #[.int .i64 (nt : Int)] 3)
 obtain ⟨bx, hbx⟩ : ∃ z, W1.heap.size = z := ⟨_, rfl⟩
 rw [hbx] at F2 ⊢
 obtain ⟨K2, hK2⟩ : ∃ K, (bx, Obj.cells #[.int .i64 (nt : Int)] 3 (0, 0)) :: K1 = K := ⟨_, rfl⟩
 rw [hK2] at F2
 generalize World.alloc W1 _ = W2 at F2 ⊢
 have mK : Hid ((kb, Obj.cells row 156 (0, 0)) ∈ K2) := Lib.hid (by rw [← hK2, ← hK1]; simp)
 have mk : Hid ((W.heap.size, Obj.cells #[.pointer (some ⟨kb, 0, none⟩)] 105 (0, 0)) ∈ K2) := Lib.hid (by rw [← hK2, ← hK1]; simp)
 have ms : Hid ((W.heap.size + 1, Obj.cells #[.slice a n cap] 29 (0, 0)) ∈ K2) := Lib.hid (by rw [← hK2, ← hK1]; simp)
 have mr : Hid ((W.heap.size + 1 + 1, Obj.cells #[.int .i64 0] 3 (0, 0)) ∈ K2) := Lib.hid (by rw [← hK2, ← hK1]; simp)
 have mx : Hid ((bx, Obj.cells #[.int .i64 (nt : Int)] 3 (0, 0)) ∈ K2) := Lib.hid (by rw [← hK2]; simp)
 have ml : Hid (∀ p ∈ ls, p ∈ K2) := Lib.hid (fun p hp => by rw [← hK2, ← hK1]; simp [hp])
 have mks : Hid (∀ p ∈ ks, p ∈ K2) := Lib.hid (fun p hp => by rw [← hK2, ← hK1]; simp [hp])
 have HLT : Hid (∀ q ∈ (kb, Obj.cells row 156 (0, 0)) :: (ls ++ ks), q.1 < W.heap.size) := Lib.hid (fun q hq => lt_of_block (HF.out.row (b := q.1) (o := q.2) hq))
 have HBX : Hid (W.heap.size + 1 + 1 < bx) := Lib.hid (by
  rw [← hbx]
  exact lt_of_block (F1.out.row (b := W.heap.size + 1 + 1) (o := Obj.cells #[.int .i64 0] 3 (0, 0)) (by rw [← hK1]; simp)))
 obtain ⟨bk, hbk⟩ : ∃ z, W.heap.size = z := ⟨_, rfl⟩
 have HBK := Lib.hid hbk
 rw [hbk] at mk ms mr HLT HBX ⊢
 obtain ⟨bs, hbs⟩ : ∃ z, bk + 1 = z := ⟨_, rfl⟩
 obtain ⟨br, hbr⟩ : ∃ z, bs + 1 = z := ⟨_, rfl⟩
 have HB : Hid (bk + 1 = bs ∧ bs + 1 = br) := Lib.hid ⟨hbs, hbr⟩
 rw [hbs] at ms mr HBX ⊢
 rw [hbr] at mr HBX ⊢
 clear hbx hK2 hK1 hbk hbs hbr c1 d1 d2 d3 p0 p1 p2 p3 p4 F1
 have CK : Hid (∀ W', Below W2.heap.size W2 W' → W'.cell? ⟨bx, 0, none⟩ = some (.int .i64 (nt : Int)) ∧ W'.cell? ⟨bs, 0, none⟩ = some (.slice a n cap) ∧ W'.cell? ⟨bk, 0, none⟩ = some (.pointer (some ⟨kb, 0, none⟩)) ∧ W'.cell? ⟨kb, 0, none⟩ = some (.int .i64 (b.p.win : Int)) ∧ W'.cell? ⟨kb, 1, none⟩ = some (.int .i64 (b.depth : Int)) ∧ W'.cell? ⟨kb, 2, none⟩ = some (.int .i64 (b.p.itv : Int)) ∧ W'.cell? ⟨kb, 3, none⟩ = some (.int .i64 (b.p.zet : Int)) ∧ W'.cell? ⟨kb, 4, none⟩ = some (.int .i64 (b.cap : Int)) ∧ Below W2.heap.size W2 W') := Lib.hid (fun W' k => by
  have hr : ∀ q : Nat × Obj, q ∈ K2 → W'.heap[q.1]? = some q.2 := fun q hq => (k.block _ (lt_of_block (F2.out.row (b := q.1) (o := q.2) hq))).trans (F2.out.row (b := q.1) (o := q.2) hq)
  obtain ⟨e1, e2, e3, e4, e5, e6, e7, e8⟩ := RK.out W' (hr _ mK.out)
  exact ⟨by rw [cell_of_row _ _ _ _ _ _ (hr _ mx.out)]; rfl, by rw [cell_of_row _ _ _ _ _ _ (hr _ ms.out)]; rfl, by rw [cell_of_row _ _ _ _ _ _ (hr _ mk.out)]; rfl, e4, e5, e6, e7, e8, k⟩)
 have LVS : Hid (∀ W', Below W2.heap.size W2 W' → LV W' a succ) := Lib.hid (fun W' k => HAS.out W' (F2.out.below.trans (k.mono F2.out.below.size)) (fun q hq => (k.block _ (lt_of_block (F2.out.row (b := q.1) (o := q.2) (mks.out q hq)))).trans (F2.out.row (b := q.1) (o := q.2) (mks.out q hq))))
 obtain ⟨n0, hn0⟩ : ∃ z, (lay T.length succ [] 0 b.p).length = z := ⟨_, rfl⟩
 have HN0 := Lib.hid hn0
 have BI : Hid (∀ W', Below W2.heap.size W2 W' → Calls Tryd.prog 9 #[.int .i64 (nt : Int), .slice a n cap, .slice none 0 0, .int .i64 0, .agg #[.int .i64 (b.p.win : Int), .int .i64 (b.p.itv : Int), .int .i64 (b.p.zet : Int)]] W' fun e w' => e = .returned (.tuple #[.int .i64 (n0 : Int), .int .i64 0]) ∧ Below W'.heap.size W' w') := Lib.hid (fun W' k => by
  have h1 := lbits_yes b.p T.length W' (hG.below (F2.out.below.trans (k.mono F2.out.below.size))) a succ cap none [] 0 0 (by rw [HN.out]; exact hc) (Nat.le_refl _) (plain_may hb (by rw [HNT.out]; exact hx) HS.out) (LVS.out W' k) LV.nil
  rw [HN.out, hn0, HNT.out] at h1
  exact h1)
 have BL := Lib.hid (fun W' => blist_any (b.p.win : Int) (b.depth : Int) (b.p.itv : Int) (b.p.zet : Int) (b.cap : Int) W')
 unfold bpV parV at BL
 have KX : Hid (∀ W' W'', Below W2.heap.size W2 W' → Below W'.heap.size W' W'' → Below W2.heap.size W2 W'') := Lib.hid (fun W' W'' h k => h.trans (k.mono h.size))
 have KB : Hid (∀ W' o, Below W2.heap.size W2 W' → Below W2.heap.size W2 (W'.alloc o)) := Lib.hid (fun W' o k => k.alloc k.size _)
 have KS1 : Hid (∀ W' g u1, W2.heap.size ≤ g → Below W2.heap.size W2 W' → Below W2.heap.size W2 (W'.setCell ⟨g, 0, none⟩ u1)) := Lib.hid (fun W' g u1 h k => k.setCell h _)
 have FN : Hid (∀ W' g, W2.heap.size ≤ g → Below W2.heap.size W2 W' → W'.heap[g]? = some (.cells #[.int .i64 (n0 : Int)] 3 (0, 0)) → FS w (some (wb, l)) rd ((g, .cells #[.int .i64 (n0 : Int)] 3 (0, 0)) :: K2) W' ∧ W2.heap.size ≤ g ∧ Below W2.heap.size W2 W') := Lib.hid (fun W' g h k hr => ⟨F2.out.more (js := [(g, .cells #[.int .i64 (n0 : Int)] 3 (0, 0))]) k (fun p hp => by rw [List.mem_singleton.1 hp]; exact ⟨h, hr⟩), h, k⟩)
 have NR : Hid (∀ (W' : World) (g : Nat), W'.heap[g]? = some (.cells #[.int .i64 0] 3 (0, 0)) → W'.cell? ⟨g, 0, none⟩ = some (.int .i64 0) ∧ W'.frozen? ⟨g, 0, none⟩ = false) := Lib.hid (fun W' g h => ⟨by rw [cell_of_row _ _ _ _ _ _ h]; rfl, frozen_of_row W' g 0 _ _ h⟩)
 have NB : Hid (∀ W' : World, (W'.alloc (.cells #[.int .i64 0] 3)).cell? ⟨W'.heap.size, 0, none⟩ = some (.int .i64 0) ∧ (W'.alloc (.cells #[.int .i64 0] 3)).frozen? ⟨W'.heap.size, 0, none⟩ = false) := Lib.hid (fun W' => NR.out _ _ (heap_alloc_new W' _))
 obtain ⟨c1, c2, c3, p0, p1, p2, p3, p4, -⟩ := CK.out W2 (Below.refl _ _)
 clear hn0 i1
 go_cut [6, 8] from 29 to 39 (fun v6 v8 wc => ∃ bl, v6 = .int .i64 0 ∧ v8 = .pointer (some ⟨bl, 0, none⟩) ∧ FS w (some (wb, l)) rd ((bl, .cells #[.int .i64 (n0 : Int)] 3 (0, 0)) :: K2) wc ∧ W2.heap.size ≤ bl ∧ Below W2.heap.size W2 wc)
 case first =>
  have K0 := Below.refl W2.heap.size W2
  go_region_held3 (fun W' => W'.cell? ⟨bx, 0, none⟩ = some (.int .i64 (nt : Int)) ∧ W'.cell? ⟨bs, 0, none⟩ = some (.slice a n cap) ∧ W'.cell? ⟨bk, 0, none⟩ = some (.pointer (some ⟨kb, 0, none⟩)) ∧ W'.cell? ⟨kb, 0, none⟩ = some (.int .i64 (b.p.win : Int)) ∧ W'.cell? ⟨kb, 1, none⟩ = some (.int .i64 (b.depth : Int)) ∧ W'.cell? ⟨kb, 2, none⟩ = some (.int .i64 (b.p.itv : Int)) ∧ W'.cell? ⟨kb, 3, none⟩ = some (.int .i64 (b.p.zet : Int)) ∧ W'.cell? ⟨kb, 4, none⟩ = some (.int .i64 (b.cap : Int)) ∧ Below W2.heap.size W2 W')
   (first
    | exact CK.out _ (by assumption)
    | exact CK.out _ (Below.drew (by assumption))
    | exact CK.out _ (KB.out _ _ (by assumption))
    | exact CK.out _ (Below.drew (KB.out _ _ (by assumption)))
    | exact CK.out _ (KS1.out _ _ _ (Nat.le_refl _) k8)
    | exact CK.out _ (KS1.out _ _ _ k6.size k8))
   (first
    | (go_at_call 78; (with_reducible refine (BL.out _).mono ?_); rintro e w5 ⟨rfl, k5⟩; have k6 := (by first | exact KX.out _ _ (by assumption) k5 | exact KX.out _ _ (Below.drew (by assumption)) k5 | exact KX.out _ _ (Below.drew (KB.out _ _ (by assumption))) k5 | exact KX.out _ _ (KB.out _ _ (by assumption)) k5 : Below W2.heap.size W2 w5); (try (have rA : w5.heap[W2.heap.size]? = some (.cells #[.int .i64 0] 3 (0, 0)) := (k5.block _ (by simp)).trans (heap_alloc_new W2 _))))
    | (go_at_call 9; (with_reducible refine (BI.out _ (by first | exact k6 | exact Below.drew k6 | exact KB.out _ _ k6 | exact Below.drew (KB.out _ _ k6))).mono ?_); rintro e w6 ⟨rfl, k7⟩; have k8 := (by first | exact KX.out _ _ k6 k7 | exact KX.out _ _ (Below.drew k6) k7 | exact KX.out _ _ (KB.out _ _ k6) k7 | exact KX.out _ _ (Below.drew (KB.out _ _ k6)) k7 : Below W2.heap.size W2 w6); have nb := NB.out w6; obtain ⟨nb1, nb2⟩ := nb; (try (have rB : w6.heap[W2.heap.size]? = some (.cells #[.int .i64 0] 3 (0, 0)) := (k7.block _ (lt_of_block rA)).trans rA; obtain ⟨ra1, ra2⟩ := NR.out _ _ rB)); (try (have rC : w6.heap[w5.heap.size]? = some (.cells #[.int .i64 0] 3 (0, 0)) := (k7.block _ (by simp)).trans (heap_alloc_new w5 _); obtain ⟨rc1, rc2⟩ := NR.out _ _ rC))))
  all_goals
   go_wp2_with fail
   refine Met.intro ?_
   apply_assumption
   (repeat apply Exists.intro)
   refine ⟨?_, rfl⟩
   first
    | exact ⟨_, rfl, rfl, FN.out _ _ k8.size (KB.out _ _ k8) (heap_alloc_new w6 _)⟩
    | exact ⟨_, rfl, rfl, FN.out _ _ (Nat.le_refl _) (KS1.out _ _ _ (Nat.le_refl _) k8) (heap_setCell_same w6 _ 0 _ _ _ rB)⟩
    | exact ⟨_, rfl, rfl, FN.out _ _ k6.size (KS1.out _ _ _ k6.size k8) (heap_setCell_same w6 _ 0 _ _ _ rC)⟩
 case rest =>
  obtain ⟨bl, rfl, rfl, hF3, hbl, hk3⟩ := hcut
  have F3 := Lib.hid hF3
  have K3 := Lib.hid (And.intro hbl hk3)
  clear hF3 hbl hk3 BI FN NB NR KS1 c1 c2 c3 p0 p1 p2 p3 p4
  obtain ⟨c1, c2, c3, p0, p1, p2, p3, p4, -⟩ := CK.out wc K3.out.2
  obtain ⟨-, d2, d3, -⟩ := RK.out wc (F3.out.row (List.mem_cons_of_mem _ mK.out))
  have i2 : decide ((1048576 : Int) < (E : Int) + (n : Int)) = false := decide_eq_false (by omega)
  go_upto_region 9 with fail
  go_big_region
  go_upto_region 13 with fail
  obtain ⟨K5, hK5⟩ : ∃ K, (bx, Obj.cells #[.int .i64 (nt : Int)] 3 (0, 0)) :: (bs, Obj.cells #[.slice a n cap] 29 (0, 0)) :: (bk, Obj.cells #[.pointer (some ⟨kb, 0, none⟩)] 105 (0, 0)) :: (kb, Obj.cells row 156 (0, 0)) :: (ls ++ ks) = K := ⟨_, rfl⟩
  have HSUB : Hid (∀ p ∈ K5, p ∈ K2) := Lib.hid (fun p hp => by
   rw [← hK5] at hp
   simp only [List.mem_cons, List.mem_append] at hp
   rcases hp with rfl | rfl | rfl | rfl | h | h
   ·exact mx.out
   ·exact ms.out
   ·exact mk.out
   ·exact mK.out
   ·exact ml.out p h
   ·exact mks.out p h)
  have HNB : Hid (∀ p ∈ K5, p.1 ≠ br) := Lib.hid (fun p hp => by
   have h1 := HB.out
   have h2 := HBX.out
   rw [← hK5] at hp
   simp only [List.mem_cons] at hp
   rcases hp with rfl | rfl | rfl | h
   ·show bx ≠ br; omega
   ·show bs ≠ br; omega
   ·show bk ≠ br; omega
   ·have := HLT.out p (by simpa using h)
    omega)
  have hK2lt : ∀ p ∈ K2, p.1 < W2.heap.size := fun p hp => lt_of_block (F2.out.row (b := p.1) (o := p.2) hp)
  have F4 := F3.out.add #[.slice none 0 0, .int .i64 0] 113
  obtain ⟨bb, hbb⟩ : ∃ z, wc.heap.size = z := ⟨_, rfl⟩
  have hblb : bl < bb := by rw [← hbb]; exact lt_of_block (F3.out.row (List.mem_cons_self ..))
  have hszb : W2.heap.size ≤ bb := by rw [← hbb]; exact K3.out.2.size
  rw [hbb] at F4 ⊢
  have TS : Hid (TryS w b T wb E D l rd kb row ls bk bs bx bl br bb (.slice a n cap) (.int .i64 (n0 : Int)) (.int .i64 0) (.slice none 0 0) (.int .i64 0) K5 (wc.alloc (.cells #[.slice none 0 0, .int .i64 0] 113))) := Lib.hid (by
   refine ⟨F4.sub (fun p hp => ?_), ?_, ?_, ?_, ?_, ?_, ⟨?_, ?_, ?_, fun p hp => ⟨?_, HNB.out p hp, ?_⟩⟩, HR.out⟩
   ·simp only [List.mem_cons] at hp ⊢
    rcases hp with h | h | h | h
    ·exact .inr (.inl h)
    ·rw [h]; exact .inr (.inr mr.out)
    ·exact .inl h
    ·exact .inr (.inr (HSUB.out p h))
   ·rw [← hK5]; simp
   ·rw [← hK5]; simp
   ·rw [← hK5]; simp
   ·rw [← hK5, HNT.out]; simp
   ·intro p hp; rw [← hK5]; simp [hp]
   ·have h1 := hK2lt _ mr.out
    have h2 := K3.out.1
    dsimp only at h1
    omega
   ·omega
   ·have h1 := hK2lt _ mr.out
    dsimp only at h1
    omega
   ·have h1 := hK2lt p (HSUB.out p hp)
    have h2 := K3.out.1
    omega
   ·have h1 := hK2lt p (HSUB.out p hp)
    omega)
  have HKK : Hid (∀ p ∈ ls ++ ks, p ∈ K5) := Lib.hid (fun p hp => by rw [← hK5]; exact List.mem_cons_of_mem _ (List.mem_cons_of_mem _ (List.mem_cons_of_mem _ (List.mem_cons_of_mem _ hp))))
  have hkbk : kb < bk := HLT.out _ (List.mem_cons_self ..)
  obtain ⟨K6, hK6⟩ : ∃ K, (bx, Obj.cells #[.int .i64 (nt : Int)] 3 (0, 0)) :: (bs, Obj.cells #[.slice a n cap] 29 (0, 0)) :: (bk, Obj.cells #[.pointer (some ⟨kb, 0, none⟩)] 105 (0, 0)) :: (ls ++ ks) = K := ⟨_, rfl⟩
  have H56 : Hid (∀ p ∈ (kb, Obj.cells row 156 (0, 0)) :: K6, p ∈ K5) := Lib.hid (fun p hp => by
   rw [← hK6] at hp
   rw [← hK5]
   simp only [List.mem_cons] at hp ⊢
   rcases hp with h | h | h | h | h
   ·exact .inr (.inr (.inr (.inl h)))
   ·exact .inl h
   ·exact .inr (.inl h)
   ·exact .inr (.inr (.inl h))
   ·exact .inr (.inr (.inr (.inr h))))
  have H6N : Hid (∀ p ∈ K6, p.1 ≠ kb) := Lib.hid (fun p hp => by
   have h1 := HB.out
   have h2 := HBX.out
   rw [← hK6] at hp
   simp only [List.mem_cons] at hp
   rcases hp with rfl | rfl | rfl | h
   ·show bx ≠ kb; omega
   ·show bs ≠ kb; omega
   ·show bk ≠ kb; omega
   ·exact HNE.out p h)
  have H6K : Hid ((bk, Obj.cells #[.pointer (some ⟨kb, 0, none⟩)] 105 (0, 0)) ∈ K6 ∧ (bs, Obj.cells #[.slice a n cap] 29 (0, 0)) ∈ K6 ∧ ∀ p ∈ ls ++ ks, p ∈ K6) := Lib.hid ⟨by rw [← hK6]; simp, by rw [← hK6]; simp, fun p hp => by rw [← hK6]; exact List.mem_cons_of_mem _ (List.mem_cons_of_mem _ (List.mem_cons_of_mem _ hp))⟩
  have HKB : Hid ((kb, Obj.cells row 156 (0, 0)) ∈ K5) := Lib.hid (by rw [← hK5]; simp)
  generalize World.alloc wc _ = W5 at TS ⊢
  clear hkbk hK6 hK5 hK2lt F4 hbb hblb hszb F3 K3 c1 c2 c3 p0 p1 p2 p3 p4 d2 d3 i2 mK mk ms mr mx ml mks HLT HBX HB HSUB HNB CK LVS KX KB F2
  have TS5 : Hid (TryS w b T wb E D l rd kb row ls bk bs bx bl br bb (.slice a n cap) (.int .i64 (n0 : Int)) (.int .i64 0) (.slice none 0 0) (.int .i64 0) K5 W5.drew) := Lib.hid TS.out.drew
  obtain ⟨wn, hwn⟩ : ∃ z, b.p.win = z := ⟨_, rfl⟩
  have HWN := Lib.hid hwn
  have hw16 : wn ≤ 16 := by rw [← hwn]; exact hb.1
  obtain ⟨c1, c2, c3, c4, c5, d0, d1, d2, d3, d4⟩ := TS5.out.cells
  rw [hwn] at d0
  have c1 : W5.cell? ⟨bk, 0, none⟩ = some (.pointer (some ⟨kb, 0, none⟩)) := c1
  have d0 : W5.cell? ⟨kb, 0, none⟩ = some (.int .i64 (wn : Int)) := d0
  clear c2 c3 c4 c5 d1 d2 d3 d4 hwn
  go_wp2_with fail
  go_loopw [59] (fun v59 wr => ∃ (r : Nat) (v u : Value), v59 = .int .i64 (r : Int) ∧ r ≤ wn ∧ TryS w b T wb E D l rd kb row ls bk bs bx bl br bb (.slice a n cap) (.int .i64 ((pickN b T succ r).1 : Int)) (.int .i64 ((pickN b T succ r).2.1 : Int)) v u K5 wr ∧ Slot K5 (pickN b T succ r).2.2 v u) (fun v59 _ => wn - (intOf v59).toNat)
  case atStart =>
   refine ⟨0, _, _, rfl, Nat.zero_le _, ?_, ⟨none, 0, rfl, rfl, Nat.le_refl _, fun W _ => LV.nil⟩⟩
   show TryS w b T wb E D l rd kb row ls bk bs bx bl br bb (.slice a n cap) (.int .i64 ((lay T.length succ [] 0 b.p).length : Int)) (.int .i64 0) (.slice none 0 0) (.int .i64 0) K5 _
   rw [HN0.out]
   exact TS5.out
  case round =>
   obtain ⟨r, v, u, rfl, hr, hS, hsl⟩ := hrel
   rename World => wr
   by_cases hlt : r < wn
   ·have TR := try_any (succ := succ) (cap := cap) (a := a) (q := pickN b T succ r) (by rw [HN.out]; exact hS) hG hb (by rw [HNT.out]; exact hx) HS.out HTO.out (by rw [HN.out]; exact hc) (HAS.out.more (fun p hp => HKK.out p (List.mem_append_right _ hp))) hsl (r + 1) ⟨by omega, by omega⟩
    rw [HN.out, ← pickN_succ, show ((r + 1 : Nat) : Int) = (r : Int) + 1 by omega] at TR
    have HTR := Lib.hid TR
    have i1 : decide ((r : Int) < (wn : Int)) = true := decide_eq_true (by omega)
    clear TR hS hsl c1 d0
    go_wp2_with fail
    with_reducible refine HTR.out.mono ?_
    rintro e w6 ⟨rfl, v', u', hS', hsl'⟩
    have HS' := Lib.hid (And.intro hS' hsl')
    clear hS' hsl' HTR
    go_wp2_with fail
    go_roundw
    case rel => exact ⟨r + 1, v', u', by go_num, by omega, HS'.out.1, HS'.out.2⟩
    case measure => simp [intOf]; omega
   ·have hre : r = wn := by omega
    subst hre
    have i1 : decide ((r : Int) < (r : Int)) = false := decide_eq_false (by omega)
    have PB := Lib.hid (pickB_ok b T succ)
    have hmq := PB.out.may hb (by rw [HNT.out]; exact hx) HS.out HTO.out
    have HPK : pickB b T succ = pickN b T succ r := by unfold pickB; rw [HWN.out]
    obtain ⟨q, hq⟩ : ∃ q, pickB b T succ = q := ⟨_, rfl⟩
    have ADDB : Hid (addB b T succ = lay T.length succ q.2.2.1 q.2.1 b.p) := Lib.hid (by rw [← hq]; rfl)
    have PUTB : Hid (putB b T succ = (succ, chainOf q)) := Lib.hid (by rw [← hq]; rfl)
    rw [← HPK, hq] at hS hsl
    rw [hq] at hmq PB
    have HQ := Lib.hid hq
    have hl2 : l.length + (lay T.length succ q.2.2.1 q.2.1 b.p).length ≤ 134217728 := by rw [← ADDB.out]; exact hl
    obtain ⟨lq, rq, tl, tc⟩ := q
    dsimp only at hS hsl hmq hl2
    obtain ⟨s9, d9, e1, e2, hd9, hst9⟩ := hsl
    subst e1 e2
    dsimp only at hS hd9 hst9
    obtain ⟨tn, htn⟩ : ∃ z, tl.length = z := ⟨_, rfl⟩
    have HTN := Lib.hid htn
    rw [htn] at hS hd9
    have HTS := Lib.hid hS
    have HST := Lib.hid hst9
    have EN : Hid (∀ W', TryS w b T wb E D l rd kb row ls bk bs bx bl br bb (.slice a n cap) (.int .i64 (lq : Int)) (.int .i64 (rq : Int)) (.slice s9 tn d9) (.int .i64 (tc : Int)) K5 W' → Calls Tryd.prog 11 #[.pointer (some ⟨wb, 0, none⟩), .int .i64 (nt : Int), .slice a n cap, .slice s9 tn d9, .int .i64 (rq : Int), .agg #[.int .i64 (b.p.win : Int), .int .i64 (b.p.itv : Int), .int .i64 (b.p.zet : Int)]] W' fun e w' =>
      e = .returned (.int .i64 0) ∧ TryS w b T wb E D (l ++ addB b T succ) rd kb row ls bk bs bx bl br bb (.slice a n cap) (.int .i64 (lq : Int)) (.int .i64 (rq : Int)) (.slice s9 tn d9) (.int .i64 (tc : Int)) K5 w') := Lib.hid (fun W' h' => by
     have h2 := h'.enc hG b.p T.length a succ cap s9 tl d9 rq (by rw [HN.out]; exact hc) (by rw [HTN.out]; exact hd9) hmq (HAS.out W' h'.fs.below (fun p hp => h'.has (HKK.out p (List.mem_append_right _ hp)))) (HST.out W' (fun p hp => h'.has hp)) hl2
     rw [HN.out, HTN.out, HNT.out] at h2
     rw [ADDB.out]
     dsimp only
     rw [HNT.out]
     exact h2)
    have CT : Hid (∀ l' W', TryS w b T wb E D l' rd kb row ls bk bs bx bl br bb (.slice a n cap) (.int .i64 (lq : Int)) (.int .i64 (rq : Int)) (.slice s9 tn d9) (.int .i64 (tc : Int)) K5 W' → W'.cell? ⟨bk, 0, none⟩ = some (.pointer (some ⟨kb, 0, none⟩)) ∧ W'.cell? ⟨bs, 0, none⟩ = some (.slice a n cap) ∧ W'.cell? ⟨bx, 0, none⟩ = some (.int .i64 (nt : Int)) ∧ W'.cell? ⟨br, 0, none⟩ = some (.int .i64 (rq : Int)) ∧ W'.cell? ⟨kb, 0, none⟩ = some (.int .i64 (b.p.win : Int)) ∧ W'.cell? ⟨kb, 1, none⟩ = some (.int .i64 (b.depth : Int)) ∧ W'.cell? ⟨kb, 2, none⟩ = some (.int .i64 (b.p.itv : Int)) ∧ W'.cell? ⟨kb, 3, none⟩ = some (.int .i64 (b.p.zet : Int)) ∧ W'.cell? ⟨kb, 4, none⟩ = some (.int .i64 (b.cap : Int)) ∧ W'.cell? ⟨kb, 40, none⟩ = some (.pointer (some ⟨wb, 0, none⟩)) ∧ W'.cell? ⟨bb, 0, none⟩ = some (.slice s9 tn d9)) := Lib.hid (fun l' W' h' => by
     obtain ⟨c1, c2, c3, c4, c5, d0, d1, d2, d3, d4⟩ := h'.cells
     obtain ⟨e1, e2, -⟩ := h'.cells2
     rw [HNT.out] at c3
     exact ⟨c1, c2, c3, c5, d0, d1, d2, d3, d4, e1, e2⟩)
    clear hS hst9 htn hmq hl2 hl hq HPK c1 d0 TS TS5
    go_upto_region 18 with fail
    obtain ⟨c1, c2, c3, c5, d0, d1, d2, d3, d4, d5, d6⟩ := CT.out _ _ HTS.out
    go_region_held3 (fun W' => W'.cell? ⟨bk, 0, none⟩ = some (.pointer (some ⟨kb, 0, none⟩)) ∧ W'.cell? ⟨bs, 0, none⟩ = some (.slice a n cap) ∧ W'.cell? ⟨bx, 0, none⟩ = some (.int .i64 (nt : Int)) ∧ W'.cell? ⟨br, 0, none⟩ = some (.int .i64 (rq : Int)) ∧ W'.cell? ⟨kb, 0, none⟩ = some (.int .i64 (b.p.win : Int)) ∧ W'.cell? ⟨kb, 1, none⟩ = some (.int .i64 (b.depth : Int)) ∧ W'.cell? ⟨kb, 2, none⟩ = some (.int .i64 (b.p.itv : Int)) ∧ W'.cell? ⟨kb, 3, none⟩ = some (.int .i64 (b.p.zet : Int)) ∧ W'.cell? ⟨kb, 4, none⟩ = some (.int .i64 (b.cap : Int)) ∧ W'.cell? ⟨kb, 40, none⟩ = some (.pointer (some ⟨wb, 0, none⟩)) ∧ W'.cell? ⟨bb, 0, none⟩ = some (.slice s9 tn d9))
     (first | exact CT.out _ _ HTS.out | exact CT.out _ _ HTS.out.drew | exact CT.out _ _ (by assumption) | exact CT.out _ _ (TryS.drew (by assumption)))
     (first
      | (go_at_call 78; (with_reducible refine (BL.out _).mono ?_); rintro e w6 ⟨rfl, k6⟩; have h6 := (by first | exact HTS.out.next k6 | exact HTS.out.drew.next k6 : TryS w b T wb E D l rd kb row ls bk bs bx bl br bb (.slice a n cap) (.int .i64 (lq : Int)) (.int .i64 (rq : Int)) (.slice s9 tn d9) (.int .i64 (tc : Int)) K5 w6))
      | (go_at_call 11; (with_reducible refine (EN.out _ (by first | exact h6 | exact h6.drew)).mono ?_); rintro e w7 ⟨rfl, h7⟩))
    have H7 := Lib.hid h7
    clear h6 h7 k6 HTS EN c1 c2 c3 c5 d0 d1 d2 d3 d4 d5 d6 BL
    obtain ⟨ch, hch⟩ : ∃ z, chainOf (lq, rq, tl, tc) = z := ⟨_, rfl⟩
    rw [hch] at PUTB
    have HCH := Lib.hid hch
    clear hch
    obtain ⟨-, -, -, -, c5, -⟩ := H7.out.cells
    obtain ⟨-, -, c6, -⟩ := H7.out.cells2
    go_upto_if 86 with fail
    go_cut [13] from 85 to 89 (fun v13 wc => v13 = .int .i64 (ch : Int) ∧ w7 = wc)
    case first =>
     by_cases h0 : 0 < rq
     ·have j1 : decide ((0 : Int) < (rq : Int)) = true := decide_eq_true (by omega)
      have j1n : decide (0 < rq) = true := decide_eq_true h0
      have e1 : ch = tc + 1 := by rw [← HCH.out]; unfold chainOf; rw [if_pos h0]
      have htc : tc < 16 := by
       rcases PB.out.by_ with ⟨h, _⟩ | ⟨_, h⟩
       ·dsimp only at h; omega
       ·have h5 := (back_some h).2.2.2.1
        unfold tkMay at h5
        dsimp only at h5
        omega
      have e2 : (ch : Int) = (tc : Int) + 1 := by omega
      have HE := Lib.hid e2
      clear e1 e2
      go_wp2_with fail
      go_meet
      case rel => exact ⟨by rw [HE.out], rfl⟩
     ·have j1 : decide ((0 : Int) < (rq : Int)) = false := decide_eq_false (by omega)
      have j1n : decide (0 < rq) = false := decide_eq_false h0
      have e1 : ch = 0 := by rw [← HCH.out]; unfold chainOf; rw [if_neg h0]
      subst e1
      go_wp2_with fail
      go_meet
      case rel => exact ⟨rfl, rfl⟩
    case rest =>
     obtain ⟨rfl, hwd⟩ := hcut
     subst hwd
     clear c5 c6
     have hne7 := H7.out.ne
     have hkb7 := hne7.2.2.2 _ HKB.out
     dsimp only at hkb7
     have PF : Hid (∀ (w3 w4 : World) (kv : List (Nat × Obj)) (o' : Obj), Below w7.heap.size w7 w3 → (∀ p ∈ kv, w7.heap.size ≤ p.1 ∧ w3.heap[p.1]? = some p.2) → Keeps w3 w4 (fun x => x = kb) → w4.heap[kb]? = some o' →
       FS w (some (wb, l ++ addB b T succ)) rd ((kb, o') :: (bl, .cells #[.int .i64 (lq : Int)] 3 (0, 0)) :: (br, .cells #[.int .i64 (rq : Int)] 3 (0, 0)) :: (bb, .cells #[.slice s9 tn d9, .int .i64 (tc : Int)] 113 (0, 0)) :: (kv ++ K6)) w4) := Lib.hid (fun w3 w4 kv o' k hkv hk ho => by
      have hlt := lt_of_block (H7.out.has HKB.out)
      refine ((H7.out.fs.more k hkv).sub (ks' := (kb, Obj.cells row 156 (0, 0)) :: (bl, .cells #[.int .i64 (lq : Int)] 3 (0, 0)) :: (br, .cells #[.int .i64 (rq : Int)] 3 (0, 0)) :: (bb, .cells #[.slice s9 tn d9, .int .i64 (tc : Int)] 113 (0, 0)) :: (kv ++ K6)) (fun p hp => ?_)).turn hk ho (fun p hp => ?_)
      ·simp only [List.mem_cons, List.mem_append] at hp ⊢
       rcases hp with h | h | h | h | h | h
       ·exact .inr (.inr (.inr (.inr (by rw [h]; exact HKB.out))))
       ·exact .inr (.inl h)
       ·exact .inr (.inr (.inl h))
       ·exact .inr (.inr (.inr (.inl h)))
       ·exact .inl h
       ·exact .inr (.inr (.inr (.inr (H56.out p (List.mem_cons_of_mem _ h)))))
      ·simp only [List.mem_cons, List.mem_append] at hp
       rcases hp with rfl | rfl | rfl | h | h
       ·exact fun e => hkb7.1 e.symm
       ·exact fun e => hkb7.2.1 e.symm
       ·exact fun e => hkb7.2.2 e.symm
       ·have := (hkv p h).1
        dsimp only at hlt
        omega
       ·exact H6N.out p h)
     have LV7 : Hid (LV w7 a succ) := Lib.hid (HAS.out w7 H7.out.fs.below (fun p hp => H7.out.has (HKK.out p (List.mem_append_right _ hp))))
     have HPT : Hid (∀ (w3 : World), Below w7.heap.size w7 w3 → ∀ (s3 : Option Addr) (d3 : Nat), Calls Tryd.prog 81 #[.pointer (some ⟨kb, 5, none⟩), .slice s3 n d3, .int .i64 (ch : Int)] w3 fun e w' => e = .returned (.tuple #[]) ∧ Keeps w3 w' (fun x => x = kb) ∧ w'.heap.size = w3.heap.size ∧ w'.heap[kb]? = some (.cells (putRow row 5 T.length (.slice s3 n d3) (ch : Int)) 156 (0, 0))) := Lib.hid (fun w3 k s3 d3 =>
      rput_any w3 kb 5 row _ ((k.block _ (lt_of_block (H7.out.has HKB.out))).trans (H7.out.has HKB.out)) T ls HR.out.ring (by rw [HNT.out]; omega) s3 n d3 (ch : Int))
     obtain ⟨c1, c2, -⟩ := H7.out.cells
     have c1d : w7.drew.cell? ⟨bk, 0, none⟩ = some (.pointer (some ⟨kb, 0, none⟩)) := c1
     have c2d : w7.drew.cell? ⟨bs, 0, none⟩ = some (.slice a n cap) := c2
     obtain ⟨j0, hj, hj0, hj1, hj2⟩ := info_parts Tryd.infoU32
     have C3 : Hid (0 + n ≤ maxLen) := Lib.hid (by simp only [maxLen]; omega)
     have C4 : Hid ((0 + n) * 4 ≤ 140737488355328) := Lib.hid (by omega)
     have SB32 : Hid (∀ x ∈ succ, x < 4294967296) := Lib.hid (fun x hx => Nat.lt_trans (HS.out.2 x hx) (by decide))
     go_upto_region 24 with fail
     go_cut [] from 90 to 96 (fun wc => ∃ kv s3 d3, n ≤ d3 ∧ Stands kv s3 succ ∧ (∀ p ∈ kv, w7.heap.size ≤ p.1) ∧ FS w (some (wb, l ++ addB b T succ)) rd ((kb, .cells (putRow row 5 T.length (.slice s3 n d3) (ch : Int)) 156 (0, 0)) :: (bl, .cells #[.int .i64 (lq : Int)] 3 (0, 0)) :: (br, .cells #[.int .i64 (rq : Int)] 3 (0, 0)) :: (bb, .cells #[.slice s9 tn d9, .int .i64 (tc : Int)] 113 (0, 0)) :: (kv ++ K6)) wc)
     case first =>
      go_region_law (first
       | (refine wp_append_lv _ (by rfl) (.const (.slice none 0 0)) (.tmp 93) 29 rfl w7.heap.size 60 j0 (.int .u32 0) 4 Tryd.underlying29 hj hj0 hj1 hj2 rfl (.slice none 0 0) 0 [] rfl (World.ownsRow_nil _ _ _ _) a n cap succ rfl HN.out (LV7.out.below (Below.drew (Below.refl _ _))) C3.out C4.out (Nat.le_refl _) ?_; intro v3 w3 own3 hg3 hw3; have k3 : Below w7.heap.size w7 w3 := (Below.drew (Below.refl _ _)).grown hg3 (Nat.le_refl _) (fun k hk => by cases hk); have c1w : w3.cell? ⟨bk, 0, none⟩ = some (.pointer (some ⟨kb, 0, none⟩)) := (k3.cell (World.block_lt_of_cell? _ _ c1)).trans c1; rw [Nat.zero_add, List.nil_append, ← HN.out] at own3; obtain ⟨kv, s3, d3, rfl, hd3, hst3, hkv⟩ := own_stands own3 (by rw [HN.out]; exact hs9) SB32.out; rw [HN.out] at hd3 ⊢; clear own3 hg3 hw3)
       | (go_simp; go_at_call 81; (with_reducible refine (HPT.out _ k3 s3 d3).mono ?_); rintro e w4 ⟨rfl, hk4, -, hr4⟩; dsimp only))
      all_goals
       go_wp2_with fail
       refine Met.intro ?_
       apply_assumption
       (repeat apply Exists.intro)
       refine ⟨?_, rfl⟩
       exact ⟨kv, s3, d3, hd3, hst3, fun p hp => (hkv p hp).1, PF.out w3 w4 kv _ k3 hkv hk4 hr4⟩
     case rest =>
      obtain ⟨kv, s3, d3, hd3, hst3, hkv, hF8⟩ := hcut
      have F8 := Lib.hid hF8
      have hlt7 := lt_of_block (H7.out.has HKB.out)
      have hbr7 := lt_of_block (H7.out.fs.row (List.mem_cons_of_mem _ (List.mem_cons_self ..)))
      dsimp only at hlt7
      have hnek : ∀ p ∈ (bl, Obj.cells #[.int .i64 (lq : Int)] 3 (0, 0)) :: (br, .cells #[.int .i64 (rq : Int)] 3 (0, 0)) :: (bb, .cells #[.slice s9 tn d9, .int .i64 (tc : Int)] 113 (0, 0)) :: (kv ++ K6), p.1 ≠ kb := fun p hp => by
       simp only [List.mem_cons, List.mem_append] at hp
       rcases hp with rfl | rfl | rfl | h | h
       ·exact fun e => hkb7.1 e.symm
       ·exact fun e => hkb7.2.1 e.symm
       ·exact fun e => hkb7.2.2 e.symm
       ·have := hkv p h
        omega
       ·exact H6N.out p h
      have HNK := Lib.hid hnek
      have rkb := F8.out.row (List.mem_cons_self ..)
      have rbl := F8.out.row (List.mem_cons_of_mem _ (List.mem_cons_self ..))
      have rbr := F8.out.row (List.mem_cons_of_mem _ (List.mem_cons_of_mem _ (List.mem_cons_self ..)))
      have rin : ∀ p ∈ K6, wc.heap[p.1]? = some p.2 := fun p hp => F8.out.row (b := p.1) (o := p.2) (List.mem_cons_of_mem _ (List.mem_cons_of_mem _ (List.mem_cons_of_mem _ (List.mem_cons_of_mem _ (List.mem_append_right _ hp)))))
      have hz43 := HR.out.size
      have c1 : wc.cell? ⟨bk, 0, none⟩ = some (.pointer (some ⟨kb, 0, none⟩)) := by rw [cell_of_row _ _ _ _ _ _ (rin _ H6K.out.1)]; rfl
      have c2 : wc.cell? ⟨bs, 0, none⟩ = some (.slice a n cap) := by rw [cell_of_row _ _ _ _ _ _ (rin _ H6K.out.2.1)]; rfl
      have c3 : wc.cell? ⟨kb, 41, none⟩ = some (.int .i64 (E : Int)) := by
       rw [cell_of_row _ _ _ _ _ _ rkb, putRow_get _ (by omega), if_neg (by omega), if_neg (by omega), if_neg (by omega)]
       exact HR.out.e
      have f3 : wc.frozen? ⟨kb, 41, none⟩ = false := frozen_of_row wc _ _ _ _ rkb
      have c1d : wc.drew.cell? ⟨bk, 0, none⟩ = some (.pointer (some ⟨kb, 0, none⟩)) := c1
      have c2d : wc.drew.cell? ⟨bs, 0, none⟩ = some (.slice a n cap) := c2
      have c3d : wc.drew.cell? ⟨kb, 41, none⟩ = some (.int .i64 (E : Int)) := c3
      have f3d : wc.drew.frozen? ⟨kb, 41, none⟩ = false := f3
      clear hF8 hnek rin PF LV7 HPT SB32 C3 C4
      go_upto_region 25 with fail
      go_big_region
      obtain ⟨row9, hrow9⟩ : ∃ z, (putRow row 5 T.length (.slice s3 n d3) (ch : Int)).setIfInBounds 41 (.int .i64 ((E : Int) + (n : Int))) = z := ⟨_, rfl⟩
      have F9 : Hid (FS w (some (wb, l ++ addB b T succ)) rd ((kb, .cells row9 156 (0, 0)) :: (bl, .cells #[.int .i64 (lq : Int)] 3 (0, 0)) :: (br, .cells #[.int .i64 (rq : Int)] 3 (0, 0)) :: (bb, .cells #[.slice s9 tn d9, .int .i64 (tc : Int)] 113 (0, 0)) :: (kv ++ K6)) (World.drew (World.setCell wc ⟨kb, 41, none⟩ (.int .i64 ((E : Int) + (n : Int)))))) := Lib.hid (by
       rw [← hrow9]
       exact (F8.out.store (j := 41) (.int .i64 ((E : Int) + (n : Int))) HNK.out).drew)
      have HR9 := Lib.hid hrow9
      generalize World.drew (World.setCell wc _ _) = W9 at F9 ⊢
      clear hrow9 F8 rkb rbl rbr c1 c2 c3 f3 c1d c2d c3d f3d
      have hnb : ∀ p ∈ (kb, Obj.cells row9 156 (0, 0)) :: (bl, .cells #[.int .i64 (lq : Int)] 3 (0, 0)) :: (bb, .cells #[.slice s9 tn d9, .int .i64 (tc : Int)] 113 (0, 0)) :: (kv ++ K6), p.1 ≠ br := fun p hp => by
       simp only [List.mem_cons, List.mem_append] at hp
       rcases hp with rfl | rfl | rfl | h | h
       ·exact hkb7.2.1
       ·exact hne7.1
       ·exact fun e => hne7.2.2.1 e.symm
       ·have := hkv p h
        omega
       ·exact (hne7.2.2.2 p (H56.out p (List.mem_cons_of_mem _ h))).2.1
      have HNBR := Lib.hid hnb
      have rbl := F9.out.row (List.mem_cons_of_mem _ (List.mem_cons_self ..))
      have rbr := F9.out.row (List.mem_cons_of_mem _ (List.mem_cons_of_mem _ (List.mem_cons_self ..)))
      have c1 : W9.cell? ⟨bl, 0, none⟩ = some (.int .i64 (lq : Int)) := by rw [cell_of_row _ _ _ _ _ _ rbl]; rfl
      have c2 : W9.cell? ⟨br, 0, none⟩ = some (.int .i64 (rq : Int)) := by rw [cell_of_row _ _ _ _ _ _ rbr]; rfl
      have f2 : W9.frozen? ⟨br, 0, none⟩ = false := frozen_of_row W9 _ _ _ _ rbr
      have c1d : W9.drew.cell? ⟨bl, 0, none⟩ = some (.int .i64 (lq : Int)) := c1
      have c2d : W9.drew.cell? ⟨br, 0, none⟩ = some (.int .i64 (rq : Int)) := c2
      have f2d : W9.drew.frozen? ⟨br, 0, none⟩ = false := f2
      have hn1 := hne7.1
      clear hnb rbl rbr
      go_upto_region 26 with fail
      go_big_region
      have F10 : Hid (FS w (some (wb, l ++ addB b T succ)) rd ((br, .cells #[.int .i64 (rq : Int)] 3 (0, 0)) :: (kb, Obj.cells row9 156 (0, 0)) :: (bl, .cells #[.int .i64 (lq : Int)] 3 (0, 0)) :: (bb, .cells #[.slice s9 tn d9, .int .i64 (tc : Int)] 113 (0, 0)) :: (kv ++ K6)) (World.drew (World.setCell W9 ⟨br, 0, none⟩ (.int .i64 (rq : Int))))) := Lib.hid (((show FS w (some (wb, l ++ addB b T succ)) rd ((br, .cells #[.int .i64 (rq : Int)] 3 (0, 0)) :: (kb, Obj.cells row9 156 (0, 0)) :: (bl, .cells #[.int .i64 (lq : Int)] 3 (0, 0)) :: (bb, .cells #[.slice s9 tn d9, .int .i64 (tc : Int)] 113 (0, 0)) :: (kv ++ K6)) W9 from F9.out.sub (fun p hp => by
       simp only [List.mem_cons] at hp ⊢
       rcases hp with h | h | h | h | h
       ·exact .inr (.inr (.inl h))
       ·exact .inl h
       ·exact .inr (.inl h)
       ·exact .inr (.inr (.inr (.inl h)))
       ·exact .inr (.inr (.inr (.inr h))))).store (b := br) (row := #[.int .i64 (rq : Int)]) (T := 3) (j := 0) (.int .i64 (rq : Int)) HNBR.out).drew)
      generalize World.drew (World.setCell W9 _ _) = W10 at F10 ⊢
      have q0 : W10.cell? ⟨br, 0, none⟩ = some (.int .i64 (rq : Int)) := by rw [cell_of_row _ _ _ _ _ _ (F10.out.row (List.mem_cons_self ..))]; rfl
      clear c1 c2 f2 c1d c2d f2d F9
      go_wp2_with fail
      refine bodyPost_ret (v := .tuple #[.int .i64 (rq : Int), .int .i64 (lq : Int), .int .i64 0]) (by simp [results, Tryd.results48, go_sem, q0]) rfl ⟨by rw [HQ.out], kv ++ ls, ⟨row9, F10.out.sub (fun p hp => ?_), fun p hp => ?_, ?_⟩, fun p hp => ?_⟩
      ·simp only [List.mem_cons, List.mem_append] at hp ⊢
       rcases hp with h | (h | h) | h
       ·exact .inr (.inl h)
       ·exact .inr (.inr (.inr (.inr (.inl h))))
       ·exact .inr (.inr (.inr (.inr (.inr (H6K.out.2.2 p (List.mem_append_left _ h))))))
       ·exact .inr (.inr (.inr (.inr (.inr (H6K.out.2.2 p (List.mem_append_right _ h))))))
      ·rw [List.append_assoc] at hp
       rcases List.mem_append.1 hp with h | h
       ·have := hkv p h
        omega
       ·exact HNE.out p h
      ·have h1 := HR.out.put (succ, ch) s3 d3 (E + n) (by dsimp only; rw [HN.out]; exact hd3) (hst3.more (ls' := kv ++ ls) (fun p hp => List.mem_append_left _ hp)) (fun p hp => List.mem_append_right _ hp)
       rw [PUTB.out, HN.out]
       dsimp only at h1
       rw [HN.out, show ((E + n : Nat) : Int) = (E : Int) + (n : Int) by omega, HR9.out] at h1
       exact h1
      ·rcases List.mem_append.1 hp with h | h
       ·have h1 := hkv p h
        have h2 := lt_of_block (H7.out.has (H56.out _ (List.mem_cons_of_mem _ H6K.out.1)))
        have h3 := HBK.out
        dsimp only at h2
        exact .inr (by omega)
       ·exact .inl h
end Go.Proofs.YtflnpcgnenhogaaDoor.ls
namespace Go.Proofs.YtflnpcgnenhogaaDoor.ls
open Go.RowKit Go.Proofs.YtflnpcgnenhogaaDoor.own Go.Proofs.YtflnpcgnenhogaaDoor.bit

section
variable {w W W' : World} {b : Bp} {T : List Tk} {wb E D : Nat} {l : Bits} {rd : Option (Nat × ByteArray × Nat)} {kb : Nat} {ls ks : List (Nat × Obj)}
theorem KS.next (h : KS w b T wb E D l rd kb ls ks W) (k : Below W.heap.size W W') : KS w b T wb E D l rd kb ls ks W' := by
 obtain ⟨row, h1, h2, h3⟩ := h
 exact ⟨row, h1.next k, h2, h3⟩
theorem KS.below (h : KS w b T wb E D l rd kb ls ks W) : Below w.heap.size w W := by
 obtain ⟨row, h1, _⟩ := h
 exact h1.below
theorem KS.has (h : KS w b T wb E D l rd kb ls ks W) {p : Nat × Obj} (hp : p ∈ ks) : W.heap[p.1]? = some p.2 := by
 obtain ⟨row, h1, _⟩ := h
 exact h1.row (b := p.1) (o := p.2) (List.mem_cons_of_mem _ (List.mem_append_right _ hp))
theorem KS.cells (h : KS w b T wb E D l rd kb ls ks W) : W.cell? ⟨kb, 40, none⟩ = some (.pointer (some ⟨wb, 0, none⟩)) ∧ W.cell? ⟨kb, 42, none⟩ = some (.int .i64 (D : Int)) := by
 obtain ⟨row, h1, _, h3⟩ := h
 have r := h1.row (List.mem_cons_self ..)
 exact ⟨by rw [cell_of_row _ _ _ _ _ _ r]; exact h3.w, by rw [cell_of_row _ _ _ _ _ _ r]; exact h3.d⟩
theorem KS.len (h : KS w b T wb E D l rd kb ls ks W) : Calls Tryd.prog 19 #[.pointer (some ⟨wb, 0, none⟩)] W fun e w' => e = .returned (.int .i64 (l.length : Int)) ∧ W = w' := by
 obtain ⟨row, h1, _⟩ := h
 exact h1.len
theorem KS.wtext (h : KS w b T wb E D l rd kb ls ks W) : Calls Tryd.prog 13 #[.pointer (some ⟨wb, 0, none⟩)] W fun e w' => e = .returned (.tuple #[.string (txt (packN l)), .int .i64 0]) ∧ W = w' := by
 obtain ⟨row, h1, _⟩ := h
 exact h1.text
set_option maxRecDepth 100000 in
theorem KS.text (h : KS w b T wb E D l rd kb ls ks W) : Calls Tryd.prog 50 #[.pointer (some ⟨kb, 0, none⟩)] W fun e w' => e = .returned (.tuple #[.string (txt (packN l)), .int .i64 0]) ∧ KS w b T wb E D l rd kb ls ks w' := by
 have H := Lib.hid h
 have TX := Lib.hid h.wtext
 obtain ⟨c0, -⟩ := h.cells
 obtain ⟨t, ht⟩ : ∃ t, txt (packN l) = t := ⟨_, rfl⟩
 rw [ht] at TX ⊢
 clear h ht
 go_enter Tryd.func50, Tryd.ntmps50
 go_wp2_with fail
 with_reducible refine TX.out.mono ?_
 rintro e w2 ⟨rfl, rfl⟩
 go_wp2_with fail
 go_ret2
 exact ⟨rfl, H.out⟩
set_option maxRecDepth 100000 in
theorem KS.bits (h : KS w b T wb E D l rd kb ls ks W) (hD : D + l.length ≤ 9223372036854775807) : Calls Tryd.prog 49 #[.pointer (some ⟨kb, 0, none⟩)] W fun e w' => e = .returned (.int .i64 ((D + l.length : Nat) : Int)) ∧ KS w b T wb E D l rd kb ls ks w' := by
 have H := Lib.hid h
 have LE := Lib.hid (fun W' (k : Below W.heap.size W W') => (h.next k).len)
 obtain ⟨c0, c1⟩ := h.cells
 obtain ⟨n, hn⟩ : ∃ n, l.length = n := ⟨_, rfl⟩
 rw [hn] at LE hD ⊢
 obtain ⟨m, hm⟩ : ∃ m, D + n = m := ⟨_, rfl⟩
 have e1 : IntKind.i64.wrap ((D : Int) + (n : Int)) = (m : Int) := by rw [IntWalk.i64_in _ (by omega)]; omega
 rw [hm]
 clear h hn hm
 go_enter Tryd.func49, Tryd.ntmps49
 go_upto_region 3 with fail
 have K0 := Below.refl W.heap.size W
 have CF : Hid (∀ W', Below W.heap.size W W' → W'.cell? ⟨kb, 40, none⟩ = some (.pointer (some ⟨wb, 0, none⟩)) ∧ W'.cell? ⟨kb, 42, none⟩ = some (.int .i64 (D : Int)) ∧ Below W.heap.size W W') := Lib.hid (fun W' k => ⟨(H.out.next k).cells.1, (H.out.next k).cells.2, k⟩)
 go_region_held3 (fun W' => W'.cell? ⟨kb, 40, none⟩ = some (.pointer (some ⟨wb, 0, none⟩)) ∧ W'.cell? ⟨kb, 42, none⟩ = some (.int .i64 (D : Int)) ∧ Below W.heap.size W W')
  (first | exact CF.out _ (by assumption) | exact CF.out _ (Below.drew (by assumption)))
  (first | (go_at_call 19; (with_reducible refine (LE.out _ (by first | assumption | exact Below.drew (by assumption))).mono ?_); rintro e w5 ⟨rfl, rfl⟩))
 go_wp2_with fail
 go_ret
 exact ⟨rfl, H.out.next ⟨rfl, rfl, rfl, Nat.le_refl _, fun _ _ => rfl⟩⟩
end
/-- a new packer -/
def NewP (w : World) (b : Bp) (ks : List (Nat × Obj)) (e : Ending) (w' : World) : Prop := ∃ kb wb, e = .returned (.tuple #[.pointer (some ⟨kb, 0, none⟩), .int .i64 0]) ∧ KS w b [] wb 0 0 [] none kb [] ks w'
set_option maxRecDepth 100000 in
set_option maxHeartbeats 3200000 in
theorem bnew_yes {w W : World} {ks : List (Nat × Obj)} (b : Bp) (hb : BpOk (b.p.win : Int) (b.depth : Int) (b.p.itv : Int) (b.p.zet : Int) (b.cap : Int)) (h : FS w none none ks W) :
  Calls Tryd.prog 46 #[bpV (b.p.win : Int) (b.depth : Int) (b.p.itv : Int) (b.p.zet : Int) (b.cap : Int)] W (NewP w b ks) := by
 have CK := Lib.hid (fun W' => bcheck_any (b.p.win : Int) (b.depth : Int) (b.p.itv : Int) (b.p.zet : Int) (b.cap : Int) W')
 rw [if_pos hb] at CK
 have H := Lib.hid h
 obtain ⟨wn, hwn⟩ : ∃ z, b.p.win = z := ⟨_, rfl⟩
 obtain ⟨dp, hdp⟩ : ∃ z, b.depth = z := ⟨_, rfl⟩
 obtain ⟨iv, hiv⟩ : ∃ z, b.p.itv = z := ⟨_, rfl⟩
 obtain ⟨zt, hzt⟩ : ∃ z, b.p.zet = z := ⟨_, rfl⟩
 obtain ⟨cp, hcp⟩ : ∃ z, b.cap = z := ⟨_, rfl⟩
 have HB := Lib.hid (And.intro hwn (And.intro hdp (And.intro hiv (And.intro hzt hcp))))
 rw [hwn, hdp, hiv, hzt, hcp] at CK ⊢
 clear hwn hdp hiv hzt hcp hb h
 unfold bpV at CK ⊢
 go_enter Tryd.func46, Tryd.ntmps46
 go_wp2_with fail
 have kb : Below W.heap.size W (W.alloc (.cells #[.int .i64 (wn : Int), .int .i64 (dp : Int), .int .i64 (iv : Int), .int .i64 (zt : Int), .int .i64 (cp : Int)] 70)) := (by repeat (first | exact Below.refl _ _ | refine below_drewN ?_ _ | refine Below.setCell ?_ (by simp; try omega) _ | refine Below.alloc ?_ (by simp; try omega) _))
 have r1 := heap_alloc_new W (.cells #[.int .i64 (wn : Int), .int .i64 (dp : Int), .int .i64 (iv : Int), .int .i64 (zt : Int), .int .i64 (cp : Int)] 70)
 with_reducible refine (CK.out _).mono ?_
 rintro e w2 ⟨rfl, k2⟩
 have F2 := Lib.hid ((H.out.add #[.int .i64 (wn : Int), .int .i64 (dp : Int), .int .i64 (iv : Int), .int .i64 (zt : Int), .int .i64 (cp : Int)] 70).next k2)
 obtain ⟨pb, hpb⟩ : ∃ z, W.heap.size = z := ⟨_, rfl⟩
 rw [hpb] at F2 ⊢
 clear r1 kb k2 hpb
 have CF : Hid (∀ W' wr, FS w wr none ((pb, .cells #[.int .i64 (wn : Int), .int .i64 (dp : Int), .int .i64 (iv : Int), .int .i64 (zt : Int), .int .i64 (cp : Int)] 70 (0, 0)) :: ks) W' → W'.cell? ⟨pb, 0, none⟩ = some (.int .i64 (wn : Int)) ∧ W'.cell? ⟨pb, 1, none⟩ = some (.int .i64 (dp : Int)) ∧ W'.cell? ⟨pb, 2, none⟩ = some (.int .i64 (iv : Int)) ∧ W'.cell? ⟨pb, 3, none⟩ = some (.int .i64 (zt : Int)) ∧ W'.cell? ⟨pb, 4, none⟩ = some (.int .i64 (cp : Int))) := Lib.hid (fun W' wr h => by
  have hr := h.row (List.mem_cons_self ..)
  exact ⟨by rw [cell_of_row _ _ _ _ _ _ hr]; rfl, by rw [cell_of_row _ _ _ _ _ _ hr]; rfl, by rw [cell_of_row _ _ _ _ _ _ hr]; rfl, by rw [cell_of_row _ _ _ _ _ _ hr]; rfl, by rw [cell_of_row _ _ _ _ _ _ hr]; rfl⟩)
 go_upto_region 4 with fail
 obtain ⟨p0, p1, p2, p3, p4⟩ := CF.out _ _ F2.out.drew
 go_region_law (first
  | (go_simp; go_at_call 7; (with_reducible refine (FS.new F2.out.drew).mono ?_); rintro e w3 ⟨wb, rfl, h3⟩; obtain ⟨q0, q1, q2, q3, q4⟩ := CF.out _ _ h3; dsimp only))
 all_goals
  have H3 := Lib.hid h3
  obtain ⟨e1, e2, e3, e4, e5⟩ := HB.out
  clear q0 q1 q2 q3 q4 p0 p1 p2 p3 p4 h3 CF F2
  have FIN : Hid (∀ row : Array Value, row = #[.int .i64 (wn : Int), .int .i64 (dp : Int), .int .i64 (iv : Int), .int .i64 (zt : Int), .int .i64 (cp : Int), .slice none 0 0, .int .i64 0, .slice none 0 0, .int .i64 0, .slice none 0 0, .int .i64 0, .slice none 0 0, .int .i64 0, .slice none 0 0, .int .i64 0, .slice none 0 0, .int .i64 0, .slice none 0 0, .int .i64 0, .slice none 0 0, .int .i64 0, .slice none 0 0, .int .i64 0, .slice none 0 0, .int .i64 0, .slice none 0 0, .int .i64 0, .slice none 0 0, .int .i64 0, .slice none 0 0, .int .i64 0, .slice none 0 0, .int .i64 0, .slice none 0 0, .int .i64 0, .slice none 0 0, .int .i64 0, .slice none 0 0, .int .i64 0, .int .i64 0, .pointer (some ⟨wb, 0, none⟩), .int .i64 0, .int .i64 0] → KS w b [] wb 0 0 [] none w3.heap.size [] ks (w3.alloc (.cells row 156))) := Lib.hid (fun row hrow => by
   refine ⟨row, (H3.out.add row 156).sub (fun p hp => ?_), fun p hp => ?_, ?_⟩
   ·simp only [List.mem_cons, List.nil_append] at hp ⊢
    rcases hp with h | h
    ·exact .inl h
    ·exact .inr (.inr h)
   ·have := lt_of_block (H3.out.row (b := p.1) (o := p.2) (List.mem_cons_of_mem _ (by simpa using hp)))
    omega
   ·subst hrow
    refine ⟨rfl, by rw [e1]; rfl, by rw [e2]; rfl, by rw [e3]; rfl, by rw [e4]; rfl, by rw [e5]; rfl, ⟨(show (5 + 35 : Nat) ≤ 43 from by decide), rfl, fun k hk => ⟨none, 0, 0, 0, ?_, ?_⟩, fun j hj => by cases hj⟩, rfl, rfl, rfl⟩
    ·have : k = 0 ∨ k = 1 ∨ k = 2 ∨ k = 3 ∨ k = 4 ∨ k = 5 ∨ k = 6 ∨ k = 7 ∨ k = 8 ∨ k = 9 ∨ k = 10 ∨ k = 11 ∨ k = 12 ∨ k = 13 ∨ k = 14 ∨ k = 15 ∨ k = 16 := by omega
     rcases this with rfl | rfl | rfl | rfl | rfl | rfl | rfl | rfl | rfl | rfl | rfl | rfl | rfl | rfl | rfl | rfl | rfl <;> rfl
    ·have : k = 0 ∨ k = 1 ∨ k = 2 ∨ k = 3 ∨ k = 4 ∨ k = 5 ∨ k = 6 ∨ k = 7 ∨ k = 8 ∨ k = 9 ∨ k = 10 ∨ k = 11 ∨ k = 12 ∨ k = 13 ∨ k = 14 ∨ k = 15 ∨ k = 16 := by omega
     rcases this with rfl | rfl | rfl | rfl | rfl | rfl | rfl | rfl | rfl | rfl | rfl | rfl | rfl | rfl | rfl | rfl | rfl <;> rfl)
  go_wp2_with fail
  go_ret2
  exact ⟨w3.heap.size, wb, rfl, FIN.out _ rfl⟩
end Go.Proofs.YtflnpcgnenhogaaDoor.ls
namespace Go.Proofs.YtflnpcgnenhogaaDoor.ls
open Go.RowKit Go.Proofs.YtflnpcgnenhogaaDoor.own Go.Proofs.YtflnpcgnenhogaaDoor.bit

/-- a row of the call's own, and blocks beside it that stand still -/
def LG (T : TypeId) (sz : Nat) (w0 : World) (ks : List (Nat × Obj)) (n : Nat) (xs : List Value) (v : Value) (W : World) : Prop :=
 Below w0.heap.size w0 W ∧ W.ownsRow w0.heap.size T sz v n xs ∧ ∀ p ∈ ks, W.heap[p.1]? = some p.2 ∧ some p.1 ≠ v.ownBlock
section
variable {T : TypeId} {sz : Nat} {w0 W : World} {ks : List (Nat × Obj)} {n : Nat} {xs : List Value} {v : Value}
end
/-! ### Zig, zig, Bits, gamma -/
end Go.Proofs.YtflnpcgnenhogaaDoor.ls
namespace Go.Proofs.YtflnpcgnenhogaaDoor.ls
open Go.RowKit Go.Proofs.YtflnpcgnenhogaaDoor.own Go.Proofs.YtflnpcgnenhogaaDoor.bit

/-! ### the plain law -/
def madeS (n : Nat) (l : List Nat) (v : Nat) : List Nat := if l = [] ∨ l.getLastD 0 < v % n then l ++ [v % n] else l
def madeL (n : Nat) (l : List Nat) : List Nat := l.foldl (madeS n) []
def madeG (G : List (List Nat)) : List (List Nat) := (G.take 300).map (madeL (min G.length 300))
theorem madeS_ok {n : Nat} (hn : 0 < n) {l : List Nat} (h : l.Pairwise (· < ·) ∧ ∀ v ∈ l, v < n) (v : Nat) : (madeS n l v).Pairwise (· < ·) ∧ ∀ u ∈ madeS n l v, u < n := by
 unfold madeS
 split
 ·rename_i hc
  have hv : v % n < n := Nat.mod_lt _ hn
  refine ⟨List.pairwise_append.2 ⟨h.1, List.pairwise_singleton _ _, fun a ha b hb => ?_⟩, fun u hu => ?_⟩
  ·rw [List.mem_singleton.1 hb]
   rcases hc with rfl | hc
   ·cases ha
   ·-- the last is the greatest
    have hne : l ≠ [] := fun e => by rw [e] at ha; cases ha
    have hle : a ≤ l.getLast hne := by
     obtain ⟨i, hi, rfl⟩ := List.mem_iff_getElem.1 ha
     rw [List.getLast_eq_getElem]
     rcases Nat.lt_or_ge i (l.length - 1) with h2 | h2
     ·exact Nat.le_of_lt (List.pairwise_iff_getElem.1 h.1 i (l.length - 1) hi (by omega) h2)
     ·have : i = l.length - 1 := by omega
      subst this
      exact Nat.le_refl _
    have e : l.getLastD 0 = l.getLast hne := by rw [List.getLastD_eq_getLast?, List.getLast?_eq_some_getLast hne]; rfl
    rw [e] at hc
    omega
  ·rcases List.mem_append.1 hu with hu | hu
   ·exact h.2 u hu
   ·rw [List.mem_singleton.1 hu]; exact hv
 ·exact h
theorem madeL_ok {n : Nat} (hn : 0 < n) (l : List Nat) : (madeL n l).Pairwise (· < ·) ∧ ∀ u ∈ madeL n l, u < n := by
 unfold madeL
 have key : ∀ (l acc : List Nat), (acc.Pairwise (· < ·) ∧ ∀ v ∈ acc, v < n) → ((l.foldl (madeS n) acc).Pairwise (· < ·) ∧ ∀ u ∈ l.foldl (madeS n) acc, u < n) := by
  intro l
  induction l with
  | nil => intro acc h; exact h
  | cons a l ih => intro acc h; exact ih _ (madeS_ok hn h a)
 exact key l [] ⟨List.Pairwise.nil, fun v hv => by cases hv⟩
theorem madeG_length (G : List (List Nat)) : (madeG G).length = min G.length 300 := by unfold madeG; rw [List.length_map, List.length_take, Nat.min_comm]
theorem rise_len {n : Nat} {l : List Nat} (h : l.Pairwise (· < ·)) (hn : ∀ v ∈ l, v < n) : l.length ≤ n := by
 have key : ∀ (l : List Nat) (b : Nat), l.Pairwise (· < ·) → (∀ v ∈ l, b ≤ v ∧ v < n) → b ≤ n → l.length + b ≤ n := by
  intro l
  induction l with
  | nil => intro b _ _ h; simpa using h
  | cons a l ih =>
   intro b h1 h2 _
   obtain ⟨p1, p2⟩ := List.pairwise_cons.1 h1
   have ha := h2 a (List.mem_cons_self ..)
   have := ih (a + 1) p2 (fun v hv => ⟨p1 v hv, (h2 v (List.mem_cons_of_mem _ hv)).2⟩) (by omega)
   simp only [List.length_cons]
   omega
 have := key l 0 h (fun v hv => ⟨Nat.zero_le _, hn v hv⟩) (Nat.zero_le _)
 omega
theorem madeG_ok (G : List (List Nat)) : (madeG G).length ≤ 300 ∧ ∀ l ∈ madeG G, Ris l ∧ l.length ≤ 300 ∧ ∀ v ∈ l, v < (madeG G).length := by
 rw [madeG_length]
 refine ⟨by omega, fun l hl => ?_⟩
 unfold madeG at hl
 obtain ⟨l0, h0, rfl⟩ := List.mem_map.1 hl
 have hG : 0 < G.length := by
  cases G with
  | nil => cases h0
  | cons a G => exact Nat.succ_pos _
 obtain ⟨h1, h2⟩ := madeL_ok (n := min G.length 300) (by omega) l0
 exact ⟨⟨h1, fun v hv => by have := h2 v hv; omega⟩, by have := rise_len h1 h2; omega, h2⟩
/-! ### rows of lists -/
def GRow (ks : List (Nat × Obj)) (V : List Value) (G : List (List Nat)) : Prop := V.length = G.length ∧ ∀ i (h : i < G.length), ∃ s d, V[i]? = some (.slice s G[i].length d) ∧ G[i].length ≤ d ∧ Stands ks s G[i]
theorem GRow.nil (ks : List (Nat × Obj)) : GRow ks [] [] := ⟨rfl, fun i h => by cases h⟩
theorem GRow.more {ks ks' : List (Nat × Obj)} {V : List Value} {G : List (List Nat)} (h : GRow ks V G) (hs : ∀ p ∈ ks, p ∈ ks') : GRow ks' V G := ⟨h.1, fun i hi => by
 obtain ⟨s, d, h1, h2, h3⟩ := h.2 i hi
 exact ⟨s, d, h1, h2, h3.more hs⟩⟩
theorem GRow.snoc {ks : List (Nat × Obj)} {V : List Value} {G : List (List Nat)} (h : GRow ks V G) (l : List Nat) (s : Option Addr) (d : Nat) (hd : l.length ≤ d) (hs : Stands ks s l) : GRow ks (V ++ [.slice s l.length d]) (G ++ [l]) := by
 refine ⟨by rw [List.length_append, List.length_append, h.1]; rfl, fun i hi => ?_⟩
 rw [List.length_append, List.length_singleton] at hi
 by_cases hlt : i < G.length
 ·obtain ⟨s', d', h1, h2, h3⟩ := h.2 i hlt
  refine ⟨s', d', ?_, ?_, ?_⟩
  ·rw [List.getElem?_append_left (by rw [h.1]; exact hlt), List.getElem_append_left hlt]; exact h1
  ·rw [List.getElem_append_left hlt]; exact h2
  ·rw [List.getElem_append_left hlt]; exact h3
 ·obtain rfl : i = G.length := by omega
  refine ⟨s, d, ?_, ?_, ?_⟩
  ·rw [List.getElem?_append_right (by rw [h.1]; exact Nat.le_refl _), h.1, Nat.sub_self, List.getElem_append_right (Nat.le_refl _)]; simp
  ·rw [List.getElem_append_right (Nat.le_refl _)]; simpa using hd
  ·rw [List.getElem_append_right (Nat.le_refl _)]; simpa using hs
theorem GRow.lls {ks : List (Nat × Obj)} {V : List Value} {G : List (List Nat)} (h : GRow ks V G) {W : World} {base : Nat} {a : Option Addr} {d : Nat} (ho : W.ownsRow base 29 1 (.slice a G.length d) G.length V) (hl : G.length ≤ 4611686018427387903) (hk : ∀ p ∈ ks, W.heap[p.1]? = some p.2) : LLs W a G := by
 refine ⟨hl, fun i hi => ?_⟩
 obtain ⟨s, d', h1, h2, h3⟩ := h.2 i hi
 rcases ho.2 with ⟨_, h0⟩ | ⟨g, cap, cur, hv, _, hg, _, _, _, _⟩
 ·omega
 ·injection hv with e1 e2 e3
  subst e1 e3
  refine ⟨g, 0, s, d', rfl, lt_of_block hg, ?_, h2, h3 W hk⟩
  rw [Nat.zero_add, ho.cellAt i (by omega)]
  exact h1

/-! ### the lists so far, and one that grows -/
def ML (w0 : World) (ks : List (Nat × Obj)) (V : List Value) (v : Value) (L : List Nat) (u : Value) (W : World) : Prop :=
 LG 29 1 w0 ks V.length V v W ∧ W.ownsRow w0.heap.size 60 1 u L.length (u32V L) ∧ (∀ g, v.ownBlock = some g → u.ownBlock ≠ some g) ∧ ∀ p ∈ ks, some p.1 ≠ u.ownBlock
theorem ML.start {w0 W : World} {ks : List (Nat × Obj)} {V : List Value} {v : Value} (h : LG 29 1 w0 ks V.length V v W) : ML w0 ks V v [] (.slice none 0 0) W := ⟨h, World.ownsRow_nil _ _ _ _, (fun _ _ e => nomatch e), (fun _ _ e => nomatch e)⟩
theorem ML.add1 {w0 W W2 : World} {ks : List (Nat × Obj)} {V : List Value} {v : Value} {L : List Nat} {u u' : Value} (h : ML w0 ks V v L u W) (x : Nat) (o : Obj) (own : W2.ownsRow w0.heap.size 60 1 u' (L.length + 1) (u32V L ++ [.int .u32 (x : Int)])) (hg : (W.alloc o).grownBy W2 u.ownBlock) (hw : u'.ownBlock = u.ownBlock ∨ u'.ownBlock = some (W.heap.size + 1)) : ML w0 ks V v (L ++ [x]) u' W2 := by
 obtain ⟨⟨h1, h2, h3⟩, h4, h5, h6⟩ := h
 have hs : (W.alloc o).heap.size = W.heap.size + 1 := by simp
 refine ⟨⟨(h1.alloc h1.size o).grown hg (by have := h1.size; omega) (fun k hk => (h4.lt k hk).1), (h2.alloc o).kept hg ?_, fun p hp => ?_⟩, ?_, fun g hgv => ?_, fun p hp => ?_⟩
 ·cases hv : v.ownBlock with
  | none => exact .inl rfl
  | some g => exact .inr (fun e => h5 g hv e.symm)
 ·have hlt := lt_of_block (h3 p hp).1
  exact ⟨(hg.block _ (by omega) (h6 p hp)).trans ((heap_alloc_old W o hlt).trans (h3 p hp).1), (h3 p hp).2⟩
 ·rw [List.length_append, u32V_append]; exact own
 ·rcases hw with e | e
  ·rw [e]; exact h5 g hgv
  ·rw [e]
   intro e2
   injection e2 with e2
   have := (h2.lt g hgv).2
   omega
 ·rcases hw with e | e
  ·rw [e]; exact h6 p hp
  ·rw [e]
   intro e2
   injection e2 with e2
   have := lt_of_block (h3 p hp).1
   omega
/-- the list that grew stands among the others -/
theorem ML.close {w0 W W2 : World} {ks : List (Nat × Obj)} {V : List Value} {v v' : Value} {L : List Nat} {s : Option Addr} {d : Nat} {G : List (List Nat)} (h : ML w0 ks V v L (.slice s L.length d) W) (hG : GRow ks V G) (hL : ∀ x ∈ L, x < 4294967296) (hl : L.length ≤ 65536) (o : Obj)
  (own : W2.ownsRow w0.heap.size 29 1 v' (V.length + 1) (V ++ [Value.slice s L.length d])) (hg : (W.alloc o).grownBy W2 v.ownBlock) (hw : v'.ownBlock = v.ownBlock ∨ v'.ownBlock = some (W.heap.size + 1)) :
  ∃ ks', LG 29 1 w0 ks' (V ++ [Value.slice s L.length d]).length (V ++ [Value.slice s L.length d]) v' W2 ∧ GRow ks' (V ++ [Value.slice s L.length d]) (G ++ [L]) := by
 obtain ⟨⟨h1, h2, h3⟩, h4, h5, h6⟩ := h
 have hs : (W.alloc o).heap.size = W.heap.size + 1 := by simp
 have hB := (h1.alloc h1.size o).grown hg (by have := h1.size; omega) (fun k hk => (h2.lt k hk).1)
 have old : ∀ g, g < W.heap.size → some g ≠ v.ownBlock → W2.heap[g]? = W.heap[g]? := fun g hlt hne => (hg.block g (by omega) hne).trans (heap_alloc_old W o hlt)
 have newv : ∀ g, g < W.heap.size → some g ≠ v.ownBlock → some g ≠ v'.ownBlock := fun g hlt hne e => by
  rcases hw with h | h
  ·exact hne (e.trans h)
  ·rw [h] at e
   injection e with e
   omega
 have ks0 : ∀ p ∈ ks, W2.heap[p.1]? = some p.2 ∧ some p.1 ≠ v'.ownBlock := fun p hp => by
  have hlt := lt_of_block (h3 p hp).1
  exact ⟨(old _ hlt (h3 p hp).2).trans (h3 p hp).1, newv _ hlt (h3 p hp).2⟩
 rcases h4.2 with ⟨hv, h0⟩ | ⟨g, cap, cur, hv, hb, hcell, hn, hcm, hcs, htake⟩
 ·have hL0 : L = [] := List.eq_nil_of_length_eq_zero h0
  subst hL0
  injection hv with e1 e2 e3
  subst e1 e3
  refine ⟨ks, ⟨hB, by rw [List.length_append]; exact own, ks0⟩, hG.snoc [] none 0 (Nat.le_refl _) (fun W _ => LV.nil)⟩
 ·injection hv with e1 e2 e3
  subst e1 e3
  have hne : some g ≠ v.ownBlock := fun e => h5 g e.symm rfl
  have hlt := lt_of_block hcell
  refine ⟨(g, .cells cur 60 (0, 0)) :: ks, ⟨hB, by rw [List.length_append]; exact own, fun p hp => ?_⟩, (hG.more (fun p hp => List.mem_cons_of_mem _ hp)).snoc L _ d hn (fun W' hW' => ⟨by omega, fun i hi => ?_⟩)⟩
  ·rcases List.mem_cons.1 hp with rfl | hp
   ·exact ⟨(old g hlt hne).trans hcell, newv g hlt hne⟩
   ·exact ks0 p hp
  ·have hr := hW' _ (List.mem_cons_self ..)
   refine ⟨g, 0, rfl, lt_of_block hr, ?_, hL _ (List.getElem_mem hi)⟩
   have hx : (u32V L)[i]? = some (.int .u32 (L[i] : Int)) := by unfold u32V; rw [List.getElem?_map, List.getElem?_eq_getElem hi]; rfl
   rw [← htake, List.getElem?_take_of_lt (by omega)] at hx
   rw [Nat.zero_add, cell_of_row _ _ _ _ _ _ hr, ← Array.getElem?_toList]
   exact hx
theorem Tryd.infoU32s : (Tryd.prog.info? 29).map (fun i => (i.zero, i.size, i.bytes)) = some (some (.slice none 0 0), 1, 24) := by kernel_rfl
def MadeP (G : List (List Nat)) (w : World) (e : Ending) (w' : World) : Prop := ∃ ks V v, e = .returned v ∧ LG 29 1 w ks V.length V v w' ∧ GRow ks V (madeG G)
theorem madeL_snoc (n : Nat) (l : List Nat) (v : Nat) : madeL n (l ++ [v]) = madeS n (madeL n l) v := by unfold madeL; rw [List.foldl_append]; rfl
set_option maxRecDepth 100000 in
set_option maxHeartbeats 6400000 in
theorem made_any (w : World) (a : Option Addr) (G : List (List Nat)) (cap : Nat) (hA : LLs w a G) :
  Calls Tryd.prog 25 #[.slice a G.length cap] w (MadeP G w) := by
 obtain ⟨j0, hj, hj0, hj1, hj2⟩ := info_parts Tryd.infoU32
 obtain ⟨g0, hg, hg0, hg1, hg2⟩ := info_parts Tryd.infoU32s
 have HA := Lib.hid hA
 have hz := hA.1
 obtain ⟨n, hn⟩ : ∃ n, G.length = n := ⟨_, rfl⟩
 have HN := Lib.hid hn
 rw [hn] at hz ⊢
 clear hA hn
 obtain ⟨N, hN⟩ : ∃ N, min n 300 = N := ⟨_, rfl⟩
 have HNN := Lib.hid hN
 have hN3 : N ≤ 300 := by omega
 have hmin : Hid (min (n : Int) 300 = (N : Int)) := Lib.hid (by omega)
 clear hN
 go_enter Tryd.func25, Tryd.ntmps25
 go_wp2_with fail
 go_loopw [3, 4] (fun v3 v4 wr => ∃ (i : Nat) (ks : List (Nat × Obj)) (V : List Value), v4 = .int .i64 (i : Int) ∧ i ≤ N ∧ LG 29 1 w ks V.length V v3 wr ∧ GRow ks V ((G.take i).map (madeL N))) (fun _ v4 _ => N - (intOf v4).toNat)
 case atStart => exact ⟨0, [], [], rfl, Nat.zero_le _, ⟨Below.refl _ _, World.ownsRow_nil _ _ _ _, fun _ h => by cases h⟩, GRow.nil _⟩
 case round =>
  obtain ⟨i, ks, V, rfl, hi, hL, hR⟩ := hrel
  rename World => wr
  have HR := Lib.hid hR
  have hVl : V.length = i := by rw [hR.1, List.length_map, List.length_take]; rw [HN.out]; have := HNN.out; omega
  have HVL := Lib.hid hVl
  have HL := Lib.hid hL
  obtain ⟨s3, d3, rfl⟩ := own_shape hL.2.1
  clear hL hR hVl
  by_cases hlt : i < N
  ·--A
   have hin : i < n := by have := HNN.out; omega
   have i1 : decide ((i : Int) < (n : Int)) = true := decide_eq_true (by omega)
   have i2 : decide ((i : Int) < (300 : Int)) = true := decide_eq_true (by omega)
   obtain ⟨g, o, s, d, rfl, hgl, hc, hd, hs⟩ := HA.out.2 i (by rw [HN.out]; exact hin)
   obtain ⟨l, hl⟩ : ∃ l, G[i]'(by rw [HN.out]; exact hin) = l := ⟨_, rfl⟩
   rw [hl] at hc hd hs
   have HS := Lib.hid hs
   have hm9 := hs.1
   obtain ⟨m, hm⟩ : ∃ m, l.length = m := ⟨_, rfl⟩
   have HM := Lib.hid hm
   rw [hm] at hc hd hm9
   have TK : Hid ((G.take (i + 1)).map (madeL N) = (G.take i).map (madeL N) ++ [madeL N l]) := Lib.hid (by rw [List.take_succ_eq_append_getElem (by rw [HN.out]; exact hin), List.map_append, hl]; rfl)
   have CG : Hid (∀ W, Below w.heap.size w W → W.cell? ⟨g, o + i, none⟩ = some (.slice s m d)) := Lib.hid (fun W k => (k.cell (p := ⟨g, o + i, none⟩) hgl).trans hc)
   have M0 := Lib.hid (ML.start HL.out)
   have hNN : ¬ ((N : Int) = 0) := by omega
   have uw : IntKind.u32.wrap (N : Int) = (N : Int) := by rw [IntKind.wrap_u32]; omega
   clear hl hm hs hc
   go_wp2_with fail
   go_loopw [5, 6] (fun v5 v6 wq => ∃ k : Nat, v6 = .int .i64 (k : Int) ∧ k ≤ m ∧ ML w ks V (.slice s3 V.length d3) (madeL N (l.take k)) v5 wq) (fun _ v6 _ => m - (intOf v6).toNat)
   case atStart => exact ⟨0, rfl, Nat.zero_le _, by rw [List.take_zero]; exact M0.out⟩
   case round =>
    obtain ⟨k, rfl, hk, hM⟩ := hrel
    rename World => wq
    have HMM := Lib.hid hM
    obtain ⟨s5, d5, rfl⟩ := own_shape hM.2.1
    have cg := CG.out wq hM.1.1
    clear hM
    obtain ⟨ok1, ok2⟩ := madeL_ok (n := N) (by omega) (l.take k)
    have hl9 := rise_len ok1 ok2
    have hb9 : Hid (∀ x ∈ madeL N (l.take k), x < 4294967296) := Lib.hid (fun x hx => by have := ok2 x hx; omega)
    by_cases hkt : k < m
    ·have hkl : k < l.length := by rw [HM.out]; exact hkt
     obtain ⟨g6, o6, rfl, hg6, hc6, hv6⟩ := (HS.out.below HMM.out.1.1).2 k hkl
     obtain ⟨v, hv⟩ : ∃ v, l[k] = v := ⟨_, rfl⟩
     rw [hv] at hc6 hv6
     have TL : Hid (madeL N (l.take (k + 1)) = madeS N (madeL N (l.take k)) v) := Lib.hid (by rw [List.take_succ_eq_append_getElem hkl, madeL_snoc, hv])
     obtain ⟨L, hLL⟩ : ∃ L, madeL N (l.take k) = L := ⟨_, rfl⟩
     rw [hLL] at HMM TL hl9 hb9 ⊢
     have k1 : decide ((k : Int) < (m : Int)) = true := decide_eq_true (by omega)
     obtain ⟨x, hx⟩ : ∃ x, v % N = x := ⟨_, rfl⟩
     have hxN : x < N := by rw [← hx]; exact Nat.mod_lt _ (by omega)
     have t1 : Int.tmod (v : Int) (N : Int) = (x : Int) := by rw [← Int.ofNat_tmod, hx]
     have t2 : (v : Int) % (N : Int) = (x : Int) := by rw [← hx]; rfl
     have hminI := hmin.out
     unfold madeS at TL
     rw [hx] at TL
     clear hv ok1 ok2 hLL hx
     go_upto_region 10 with fail
     obtain ⟨bb, hbb⟩ : ∃ q, decide (L = [] ∨ L.getLastD 0 < x) = q := ⟨_, rfl⟩
     have HBB := Lib.hid hbb
     clear hbb
     go_cut [51] from 39 to 50 (fun v51 wc => v51 = .bool bb ∧ wq = wc)
     case first =>
      by_cases h0 : L.length = 0
      ·have hL0 : L = [] := List.eq_nil_of_length_eq_zero h0
       have hb1 : bb = true := by rw [← HBB.out]; exact decide_eq_true (.inl hL0)
       have i3 : ((L.length : Int) == 0) = true := by rw [h0]; rfl
       subst hb1
       go_wp2_with fail
       go_meet
       case rel => exact ⟨rfl, rfl⟩
      ·obtain ⟨q, hq⟩ : ∃ q, q + 1 = L.length := ⟨L.length - 1, by omega⟩
       have i3 : ((L.length : Int) == 0) = false := beq_eq_false_iff_ne.2 (by omega)
       have hlast : L.getLastD 0 = L[q]'(by omega) := by
        rw [List.getLastD_eq_getLast?, List.getLast?_eq_getElem?, show L.length - 1 = q by omega, List.getElem?_eq_getElem (by omega)]
        rfl
       obtain ⟨y, hy⟩ : ∃ y, L[q]'(by omega) = y := ⟨_, rfl⟩
       have ho := HMM.out.2.1
       rcases ho.2 with ⟨_, h1⟩ | ⟨g5, cap5, cur5, he, _⟩
       ·omega
       ·injection he with e1 e2 e3
        subst e1 e3
        have hcl : wq.cell? ⟨g5, q, none⟩ = some (.int .u32 (y : Int)) := by
         rw [ho.cellAt q (by omega)]
         unfold u32V
         rw [List.getElem?_map, List.getElem?_eq_getElem (by omega), hy]
         rfl
        have w1 : IntKind.i64.wrap ((L.length : Int) - 1) = (q : Int) := by rw [IntWalk.i64_in _ (by omega)]; omega
        have q1 : (q : Int) < (L.length : Int) := by omega
        have q2 : (0 : Int) ≤ (q : Int) := Int.natCast_nonneg _
        have hb1 : bb = decide ((y : Int) < (x : Int)) := by
         rw [← HBB.out, hlast, hy]
         by_cases h2 : y < x
         ·rw [decide_eq_true (.inr h2), decide_eq_true (by omega)]
         ·rw [decide_eq_false (fun h => by
           rcases h with h | h
           ·rw [h] at h0; exact h0 rfl
           ·exact h2 h), decide_eq_false (by omega)]
        have HB1 := Lib.hid hb1
        clear hlast hy ho hb1
        go_wp2_with fail
        go_meet
        case rel => exact ⟨congrArg Value.bool (by rw [HB1.out]; exact (decide_eq_decide.2 Int.ofNat_lt).symm), rfl⟩
     case rest =>
      obtain ⟨rfl, hwd⟩ := hcut
      subst hwd
      cases bb with
      | true =>
       have hcx := of_decide_eq_true HBB.out
       have TL2 : Hid (madeL N (l.take (k + 1)) = L ++ [x]) := Lib.hid (by rw [TL, if_pos hcx])
       have C3 : Hid (L.length + 1 ≤ maxLen) := Lib.hid (by simp only [maxLen]; omega)
       have C4 : Hid ((L.length + 1) * 4 ≤ 140737488355328) := Lib.hid (by omega)
       have C5 : Hid (w.heap.size ≤ (wq.alloc (.cells #[.int .u32 (x : Int)] 60)).heap.size) := Lib.hid (by simp; exact Nat.le_succ_of_le HMM.out.1.1.size)
       have OA := Lib.hid (HMM.out.2.1.alloc (.cells #[.int .u32 (x : Int)] 60))
       clear hcx TL
       go_wp2_with (at_builtin; refine wpList_append_at _ rfl _ _ 29 rfl w.heap.size 60 j0 _ 1 4 Tryd.underlying29 hj hj0 hj1 hj2 rfl (by decide) _ L.length _ rfl OA.out ⟨wq.heap.size, 0, none⟩ 1 1 [.int .u32 (x : Int)] rfl rfl (cell_one_new _ _ _) (u32_one [x]) C3.out C4.out C5.out (by decide) ?_)
       intro v7 w7 own7 hg7 hw7
       have T2 := Lib.hid (HMM.out.add1 x _ own7 hg7 hw7)
       clear own7 hg7 hw7
       go_wp2_with fail
       go_roundw
       case rel => exact ⟨k + 1, by go_num, hkt, by rw [TL2.out]; exact T2.out⟩
       case measure => simp [intOf]; omega
      | false =>
       have hcx := of_decide_eq_false HBB.out
       have TL2 : Hid (madeL N (l.take (k + 1)) = L) := Lib.hid (by rw [TL, if_neg hcx])
       clear hcx TL
       go_wp2_with fail
       go_roundw
       case rel => exact ⟨k + 1, by go_num, hkt, by rw [TL2.out]; exact HMM.out⟩
       case measure => simp [intOf]; omega
    ·have hke : k = m := by omega
     subst hke
     have k1 : decide ((k : Int) < (k : Int)) = false := decide_eq_false (by omega)
     have TF : Hid (madeL N (l.take k) = madeL N l) := Lib.hid (by rw [List.take_of_length_le (by rw [HM.out]; exact Nat.le_refl _)])
     rw [TF.out] at HMM hl9 hb9 ⊢
     obtain ⟨L, hLL⟩ : ∃ L, madeL N l = L := ⟨_, rfl⟩
     rw [hLL] at HMM hl9 hb9 TK ⊢
     have C3 : Hid (V.length + 1 ≤ maxLen) := Lib.hid (by have := HVL.out; simp only [maxLen]; omega)
     have C4 : Hid ((V.length + 1) * 24 ≤ 140737488355328) := Lib.hid (by have := HVL.out; omega)
     have C5 : Hid (w.heap.size ≤ (wq.alloc (.cells #[.slice s5 L.length d5] 29)).heap.size) := Lib.hid (by simp; exact Nat.le_succ_of_le HMM.out.1.1.size)
     have OA := Lib.hid (HMM.out.1.2.1.alloc (.cells #[.slice s5 L.length d5] 29))
     clear ok1 ok2 hLL
     go_wp2_with (at_builtin; refine wpList_append_at _ rfl _ _ 62 rfl w.heap.size 29 g0 _ 1 24 Tryd.underlying62 hg hg0 hg1 hg2 rfl (by decide) _ V.length _ rfl OA.out ⟨wq.heap.size, 0, none⟩ 1 1 [.slice s5 L.length d5] rfl rfl (cell_one_new _ _ _) (fun u hu => by simp at hu; subst hu; rfl) C3.out C4.out C5.out (by decide) ?_)
     intro v7 w7 own7 hg7 hw7
     have T2 := Lib.hid (HMM.out.close HR.out hb9.out (by omega) _ own7 hg7 (by simpa using hw7))
     clear own7 hg7 hw7
     go_wp2_with fail
     go_roundw
     case rel =>
      obtain ⟨ks', h1, h2⟩ := T2.out
      exact ⟨i + 1, ks', V ++ [.slice s5 L.length d5], by go_num, hlt, h1, by rw [TK.out]; exact h2⟩
     case measure => simp [intOf]; omega
  ·have hie : i = N := by omega
   have FIN : Hid ((G.take i).map (madeL N) = madeG G) := Lib.hid (by
    unfold madeG
    rw [HN.out, HNN.out, hie, ← HNN.out]
    by_cases h3 : n ≤ 300
    ·rw [Nat.min_eq_left h3, List.take_of_length_le (by rw [HN.out]; exact Nat.le_refl _), List.take_of_length_le (by rw [HN.out]; exact h3)]
    ·rw [Nat.min_eq_right (by omega)])
   rw [FIN.out] at HR
   subst hie
   go_upto_region 3 with fail
   go_cut [15] from 8 to 14 (fun v15 wd => v15 = .bool false ∧ wd = wr)
   case first =>
    by_cases hlt1 : i < n
    ·have i1 : decide ((i : Int) < (n : Int)) = true := decide_eq_true (by omega)
     have i2 : decide ((i : Int) < (300 : Int)) = false := decide_eq_false (by have := HNN.out; omega)
     go_wp2_with fail
     go_meet
     case rel => exact ⟨rfl, rfl⟩
    ·have i1 : decide ((i : Int) < (n : Int)) = false := decide_eq_false (by omega)
     go_wp2_with fail
     go_meet
     case rel => exact ⟨rfl, rfl⟩
   case rest =>
    obtain ⟨rfl, hwd⟩ := hcut
    subst hwd
    go_wp2_with fail
    go_ret
    exact ⟨ks, V, _, rfl, HL.out, HR.out⟩
end Go.Proofs.YtflnpcgnenhogaaDoor.ls
namespace Go.Proofs.YtflnpcgnenhogaaDoor.ls
open Go.RowKit Go.Proofs.YtflnpcgnenhogaaDoor.own Go.Proofs.YtflnpcgnenhogaaDoor.bit

theorem sum_app (a b : List Nat) : sum (a ++ b) = sum a + sum b := by
 induction a with
 | nil => show sum b = 0 + sum b; omega
 | cons x a ih => show x + sum (a ++ b) = x + sum a + sum b; rw [ih]; omega
theorem edges_take_le (G : List (List Nat)) (i : Nat) : edges (G.take i) ≤ edges G := by
 have e : edges G = edges (G.take i) + edges (G.drop i) := by
  unfold edges
  rw [← sum_app, ← List.map_append, List.take_append_drop]
 omega
set_option maxRecDepth 100000 in
set_option maxHeartbeats 3200000 in
theorem graph_yes (w : World) (a : Option Addr) (G : List (List Nat)) (cap : Nat) (hA : LLs w a G) (hn : G.length ≤ 65536) (hr : ∀ l ∈ G, Ris l) (hv : ∀ l ∈ G, ∀ v ∈ l, v < G.length) (hE : edges G ≤ 1048576) :
  Calls Tryd.prog 47 #[.slice a G.length cap] w fun e w' => e = .returned (.bool true) ∧ w = w' := by
 have HA := Lib.hid hA
 have HR := Lib.hid hr
 have HV := Lib.hid hv
 have HE := Lib.hid (fun i => Nat.le_trans (edges_take_le G i) hE)
 obtain ⟨n, hnn⟩ : ∃ n, G.length = n := ⟨_, rfl⟩
 have HN := Lib.hid hnn
 rw [hnn] at hn HV ⊢
 clear hA hr hv hnn hE
 go_enter Tryd.func47, Tryd.ntmps47
 go_wp2_with fail
 go_loopw [3, 10] (fun v3 v10 wr => ∃ i : Nat, v10 = .int .i64 (i : Int) ∧ i ≤ n ∧ v3 = .int .i64 (edges (G.take i) : Int) ∧ w = wr) (fun _ v10 _ => n - (intOf v10).toNat)
 case atStart => exact ⟨0, rfl, Nat.zero_le _, by rw [List.take_zero]; rfl, rfl⟩
 case round =>
  obtain ⟨i, rfl, hi, rfl, rfl⟩ := hrel
  have he9 := HE.out i
  obtain ⟨E, hEE⟩ : ∃ E, edges (G.take i) = E := ⟨_, rfl⟩
  have HEE := Lib.hid hEE
  rw [hEE] at he9 ⊢
  clear hEE
  by_cases hlt : i < n
  ·have hiG : i < G.length := by rw [HN.out]; exact hlt
   obtain ⟨g, o, s, d, rfl, hg, hc, hd, hs⟩ := HA.out.2 i hiG
   have hrl := HR.out _ (List.getElem_mem hiG)
   have hvl := HV.out _ (List.getElem_mem hiG)
   obtain ⟨l, hl⟩ : ∃ l, G[i] = l := ⟨_, rfl⟩
   have ES : Hid (edges (G.take (i + 1)) = E + l.length) := Lib.hid (by rw [List.take_succ_eq_append_getElem hiG, edges_snoc, HEE.out, hl])
   rw [hl] at hc hd hs hrl hvl
   have HRL := Lib.hid ((ris_iff l).1 hrl)
   have HVL := Lib.hid hvl
   have HS := Lib.hid hs
   have hm9 := hrl.len
   obtain ⟨m, hm⟩ : ∃ m, l.length = m := ⟨_, rfl⟩
   have HM := Lib.hid hm
   rw [hm] at hc hd hm9 ES
   have i1 : decide ((i : Int) < (n : Int)) = true := decide_eq_true (by omega)
   clear hl hm hs hrl hvl
   go_wp2_with fail
   go_loopw [20] (fun v20 wr => ∃ k : Nat, v20 = .int .i64 (k : Int) ∧ k ≤ m ∧ w = wr) (fun v20 _ => m - (intOf v20).toNat)
   case atStart => exact ⟨0, rfl, Nat.zero_le _, rfl⟩
   case round =>
    obtain ⟨k, rfl, hk, rfl⟩ := hrel
    by_cases hkt : k < m
    ·have hkl : k < l.length := by rw [HM.out]; exact hkt
     obtain ⟨g6, o6, rfl, hg6, hc6, hv6⟩ := HS.out.2 k hkl
     have hvn := HVL.out _ (List.getElem_mem hkl)
     have hrk := HRL.out k hkl
     obtain ⟨v, hv⟩ : ∃ v, l[k] = v := ⟨_, rfl⟩
     rw [hv] at hc6 hv6 hvn hrk
     have k1 : decide ((k : Int) < (m : Int)) = true := decide_eq_true (by omega)
     have k2 : decide ((n : Int) ≤ (v : Int)) = false := decide_eq_false (by omega)
     have hv65 := hrk.1
     by_cases h0 : 0 < k
     ·obtain ⟨g7, o7, he, hg7, hc7, hv7⟩ := HS.out.2 (k - 1) (by omega)
      obtain ⟨rfl, rfl⟩ : g6 = g7 ∧ o6 = o7 := by injection he with he; injection he with e1 e2; exact ⟨e1, e2⟩
      have huv := hrk.2 h0
      obtain ⟨u, hu⟩ : ∃ u, l[k - 1]'(by omega) = u := ⟨_, rfl⟩
      rw [hu] at hc7 hv7 huv
      obtain ⟨q, hq⟩ : ∃ q, k - 1 = q := ⟨_, rfl⟩
      rw [hq] at hc7
      have k3 : decide ((0 : Int) < (k : Int)) = true := decide_eq_true (by omega)
      have k3n : decide (0 < k) = true := decide_eq_true h0
      have k4 : decide ((v : Int) ≤ (u : Int)) = false := decide_eq_false (by omega)
      have k4n : decide (v ≤ u) = false := decide_eq_false (by omega)
      have w1 : IntKind.i64.wrap ((k : Int) - 1) = (q : Int) := by rw [IntWalk.i64_in _ (by omega)]; omega
      have q1 : (q : Int) < (m : Int) := by omega
      have q2 : (0 : Int) ≤ (q : Int) := Int.natCast_nonneg _
      clear hv hu he hq hrk
      go_wp2_with fail
      go_roundw
      case rel => exact ⟨k + 1, by go_num, by omega, by trivial⟩
      case measure => simp [intOf]; omega
     ·have k3 : decide ((0 : Int) < (k : Int)) = false := decide_eq_false (by omega)
      have k3n : decide (0 < k) = false := decide_eq_false h0
      clear hv hrk
      go_wp2_with fail
      go_roundw
      case rel => exact ⟨k + 1, by go_num, by omega, by trivial⟩
      case measure => simp [intOf]; omega
    ·have k1 : decide ((k : Int) < (m : Int)) = false := decide_eq_false (by omega)
     go_wp2_with fail
     go_roundw
     case rel => exact ⟨i + 1, by go_num, by omega, by rw [ES.out]; simp, by trivial⟩
     case measure => simp [intOf]; omega
  ·have i1 : decide ((i : Int) < (n : Int)) = false := decide_eq_false (by omega)
   have i2 : decide ((n : Int) ≤ 65536) = true := decide_eq_true (by omega)
   have i3 : decide ((E : Int) ≤ 1048576) = true := decide_eq_true (by omega)
   go_wp2_with fail
   go_ret
   exact ⟨rfl, rfl⟩
end Go.Proofs.YtflnpcgnenhogaaDoor.ls
namespace Go.Proofs.YtflnpcgnenhogaaDoor.ls
open Go.RowKit Go.Proofs.YtflnpcgnenhogaaDoor.own Go.Proofs.YtflnpcgnenhogaaDoor.bit

theorem Tryd.infoU64 : (Tryd.prog.info? 76).map (fun i => (i.zero, i.size, i.bytes)) = some (some (.int .u64 0), 1, 8) := by kernel_rfl
def u64V (l : List Nat) : List Value := l.map fun (v : Nat) => Value.int .u64 (v : Int)
theorem u64V_append (a b : List Nat) : u64V (a ++ b) = u64V a ++ u64V b := List.map_append
/-- a packer, and a row of places of the call's own -/
def EA (w : World) (b : Bp) (T : List Tk) (wb E : Nat) (l : Bits) (kb : Nat) (ls ks : List (Nat × Obj)) (va : Value) (A : List Nat) (W : World) : Prop :=
 W.ownsRow 0 76 1 va A.length (u64V A) ∧ ∃ ka, KS w b T wb E 0 l none kb ls (ka ++ ks) W ∧ (∀ g, va.ownBlock = some g → ∃ o, (g, o) ∈ ka) ∧ (∀ p ∈ ka, some p.1 = va.ownBlock) ∧ ∀ p ∈ ls ++ ks, some p.1 ≠ va.ownBlock
section
variable {w W W' : World} {b : Bp} {T : List Tk} {wb E D : Nat} {l : Bits} {rd : Option (Nat × ByteArray × Nat)} {kb : Nat} {ls ks js : List (Nat × Obj)} {va : Value} {A : List Nat}
theorem KS.kb_lt (h : KS w b T wb E D l rd kb ls ks W) : kb < W.heap.size := by
 obtain ⟨row, h1, _⟩ := h
 exact lt_of_block (h1.row (List.mem_cons_self ..))
theorem KS.ls_lt (h : KS w b T wb E D l rd kb ls ks W) : ∀ p ∈ ls, p.1 < W.heap.size := fun p hp => by
 obtain ⟨row, h1, _⟩ := h
 exact lt_of_block (h1.row (b := p.1) (o := p.2) (List.mem_cons_of_mem _ (List.mem_append_left _ hp)))
theorem KS.more (h : KS w b T wb E D l rd kb ls ks W) (k : Below W.heap.size W W') (hj : ∀ p ∈ js, W.heap.size ≤ p.1 ∧ W'.heap[p.1]? = some p.2) : KS w b T wb E D l rd kb ls (js ++ ks) W' := by
 have hlt := h.kb_lt
 obtain ⟨row, h1, h2, h3⟩ := h
 refine ⟨row, (h1.more k hj).sub (fun p hp => ?_), fun p hp => ?_, h3⟩
 ·simp only [List.mem_cons, List.mem_append] at hp ⊢
  rcases hp with h | h | h | h
  ·exact .inr (.inl h)
  ·exact .inr (.inr (.inl h))
  ·exact .inl h
  ·exact .inr (.inr (.inr h))
 ·simp only [List.mem_append] at hp
  rcases hp with h | h | h
  ·exact h2 p (List.mem_append_left _ h)
  ·have := (hj p h).1
   omega
  ·exact h2 p (List.mem_append_right _ h)
theorem EA.start (h : KS w b T wb E 0 l none kb ls ks W) : EA w b T wb E l kb ls ks (.slice (some ⟨W.heap.size, 0, none⟩) 1 1) [0] (W.alloc (.cells #[.int .u64 0] 76)) := by
 have k : Below W.heap.size W (W.alloc (.cells #[.int .u64 0] 76)) := (Below.refl _ _).alloc (Nat.le_refl _) _
 have hr := heap_alloc_new W (.cells #[.int .u64 0] 76)
 refine ⟨⟨rfl, .inr ⟨W.heap.size, 1, _, rfl, Nat.zero_le _, hr, Nat.le_refl _, by decide, rfl, rfl⟩⟩, [(W.heap.size, .cells #[.int .u64 0] 76 (0, 0))], h.more (js := [(W.heap.size, .cells #[.int .u64 0] 76 (0, 0))]) k (fun p hp => by rw [List.mem_singleton.1 hp]; exact ⟨Nat.le_refl _, hr⟩), fun g hg => ⟨.cells #[.int .u64 0] 76 (0, 0), by injection hg with hg; subst hg; exact List.mem_singleton.2 rfl⟩, fun p hp => by rw [List.mem_singleton.1 hp]; rfl, fun p hp e => ?_⟩
 have e : some p.1 = some W.heap.size := e
 injection e with e
 have : p.1 < W.heap.size := by
  rcases List.mem_append.1 hp with hp | hp
  ·exact h.ls_lt p hp
  ·exact lt_of_block (h.has hp)
 omega
theorem EA.below (h : EA w b T wb E l kb ls ks va A W) : Below w.heap.size w W := by
 obtain ⟨_, ka, h1, _⟩ := h
 exact h1.below
theorem EA.has (h : EA w b T wb E l kb ls ks va A W) {p : Nat × Obj} (hp : p ∈ ks) : W.heap[p.1]? = some p.2 := by
 obtain ⟨_, ka, h1, _⟩ := h
 exact h1.has (List.mem_append_right _ hp)
/-- a vertex is added -/
theorem EA.add {a : Option Addr} {succ : List Nat} {cap : Nat} (h : EA w b T wb E l kb ls ks va A W) (hG : GL w) (hb : b.p.ok) (hdp : b.depth ≤ 16) (hx : T.length < 65536) (hs : Ris succ) (hT : TOk T) (hc : succ.length ≤ cap) (hA : Seen w ks a succ) (hE : E + succ.length ≤ 1048576) (hl : l.length + (addB b T succ).length ≤ 134217728) :
  Calls Tryd.prog 48 #[.pointer (some ⟨kb, 0, none⟩), .slice a succ.length cap] W fun e w' => e = .returned (.tuple #[.int .i64 ((pickB b T succ).2.1 : Int), .int .i64 ((pickB b T succ).1 : Int), .int .i64 0]) ∧ ∃ ls', EA w b (T ++ [putB b T succ]) wb (E + succ.length) (l ++ addB b T succ) kb ls' ks va A w' := by
 obtain ⟨h1, ka, h2, h3, h4, h5⟩ := h
 refine (add_yes h2 hG hb hdp hx hs hT hc (hA.more (fun p hp => List.mem_append_right _ hp)) hE hl).mono ?_
 rintro e w' ⟨rfl, ls', h6, h7⟩
 refine ⟨rfl, ls', own_same2 h1 (fun g hg => ?_), ka, h6, h3, h4, fun p hp => ?_⟩
 ·obtain ⟨o, ho⟩ := h3 g hg
  rw [h2.has (p := (g, o)) (List.mem_append_left _ ho), h6.has (p := (g, o)) (List.mem_append_left _ ho)]
 ·rcases List.mem_append.1 hp with hp | hp
  ·rcases h7 p hp with h | h
   ·exact h5 p (List.mem_append_left _ h)
   ·intro e
    have := (h1.lt p.1 e.symm).2
    omega
  ·exact h5 p (List.mem_append_right _ hp)
/-- a place is written down -/
theorem EA.push (h : EA w b T wb E l kb ls ks va A W) {W2 : World} {v' : Value} (o : Obj) (z : Nat) (own : W2.ownsRow 0 76 1 v' (A.length + 1) (u64V A ++ [.int .u64 (z : Int)])) (hg : (W.alloc o).grownBy W2 va.ownBlock)
  (hw : v'.ownBlock = va.ownBlock ∨ v'.ownBlock = some (W.heap.size + 1)) : EA w b T wb E l kb ls ks v' (A ++ [z]) W2 := by
 obtain ⟨h1, ka, h2, h3, h4, h5⟩ := h
 have h2n := h2.next ((Below.refl _ _).alloc (Nat.le_refl W.heap.size) o)
 have hkb := h2.kb_lt
 obtain ⟨k2, hk1, hk2, hk3⟩ := own_ks own
 obtain ⟨row, f1, f2, f3⟩ := h2n
 have hz : (W.alloc o).heap.size = W.heap.size + 1 := by simp
 have kbr : some kb ≠ va.ownBlock := fun e => by
  obtain ⟨o', ho'⟩ := h3 kb e.symm
  exact f2 _ (List.mem_append_right _ (List.mem_append_left _ ho')) rfl
 have old : ∀ p ∈ ls ++ ks, p.1 < W.heap.size := fun p hp => by
  rcases List.mem_append.1 hp with hp | hp
  ·exact h2.ls_lt p hp
  ·exact lt_of_block (h2.has (List.mem_append_right _ hp))
 have new : ∀ g, g < W.heap.size → some g ≠ va.ownBlock → some g ≠ v'.ownBlock := fun g hl hne => own_new hw (by omega) hne
 refine ⟨by rw [u64V_append, List.length_append]; exact own, k2, ⟨row, f1.grown hg (fun g e => ?_) (fun p hp => ?_), fun p hp => ?_, f3⟩, hk1, hk2, fun p hp => new _ (old p hp) (h5 p hp)⟩
 ·obtain ⟨o', ho'⟩ := h3 g e
  exact ⟨o', List.mem_cons_of_mem _ (List.mem_append_right _ (List.mem_append_left _ ho'))⟩
 ·simp only [List.mem_cons, List.mem_append] at hp
  rcases hp with rfl | hp | hp | hp
  ·exact .inl ⟨List.mem_cons_self .., kbr⟩
  ·exact .inl ⟨List.mem_cons_of_mem _ (List.mem_append_left _ hp), h5 p (List.mem_append_left _ hp)⟩
  ·refine .inr ⟨?_, hk3 p hp⟩
   rcases hw with h | h
   ·exact .inl ((hk2 p hp).trans h)
   ·have := (hk2 p hp).trans h
    injection this with this
    exact .inr (by omega)
  ·exact .inl ⟨List.mem_cons_of_mem _ (List.mem_append_right _ (List.mem_append_right _ hp)), h5 p (List.mem_append_right _ hp)⟩
 ·simp only [List.mem_append] at hp
  rcases hp with hp | hp | hp
  ·exact f2 p (List.mem_append_left _ hp)
  ·intro e
   have e2 := hk2 p hp
   rw [e] at e2
   exact new kb hkb kbr e2
  ·exact f2 p (List.mem_append_right _ (List.mem_append_right _ hp))
/-- the bits so far -/
theorem EA.bits (h : EA w b T wb E l kb ls ks va A W) (hD : l.length ≤ 9223372036854775807) : Calls Tryd.prog 49 #[.pointer (some ⟨kb, 0, none⟩)] W fun e w' => e = .returned (.int .i64 (l.length : Int)) ∧ EA w b T wb E l kb ls ks va A w' := by
 obtain ⟨h1, ka, h2, h3, h4, h5⟩ := h
 refine (h2.bits (by omega)).mono ?_
 rintro e w' ⟨rfl, h6⟩
 refine ⟨by rw [Nat.zero_add], own_same2 h1 (fun g hg => ?_), ka, h6, h3, h4, h5⟩
 obtain ⟨o, ho⟩ := h3 g hg
 rw [h2.has (p := (g, o)) (List.mem_append_left _ ho), h6.has (p := (g, o)) (List.mem_append_left _ ho)]
theorem EA.text (h : EA w b T wb E l kb ls ks va A W) : Calls Tryd.prog 50 #[.pointer (some ⟨kb, 0, none⟩)] W fun e w' => e = .returned (.tuple #[.string (txt (packN l)), .int .i64 0]) ∧ EA w b T wb E l kb ls ks va A w' := by
 obtain ⟨h1, ka, h2, h3, h4, h5⟩ := h
 refine h2.text.mono ?_
 rintro e w' ⟨rfl, h6⟩
 refine ⟨rfl, own_same2 h1 (fun g hg => ?_), ka, h6, h3, h4, h5⟩
 obtain ⟨o, ho⟩ := h3 g hg
 rw [h2.has (p := (g, o)) (List.mem_append_left _ ho), h6.has (p := (g, o)) (List.mem_append_left _ ho)]
end
end Go.Proofs.YtflnpcgnenhogaaDoor.ls
namespace Go.Proofs.YtflnpcgnenhogaaDoor.ls
open Go.RowKit Go.Proofs.YtflnpcgnenhogaaDoor.own Go.Proofs.YtflnpcgnenhogaaDoor.bit

theorem FS.decode4 {w W : World} {rb a : Nat} {s : ByteArray} {wr : Option (Nat × Bits)} {ks : List (Nat × Obj)} (h : FS w wr (some (rb, s, a)) ks W) (hG : GL w) (xv n deg r : Nat) (p : Pr) (hx : xv < 65536) (hn : n ≤ 65536) (hd : deg ≤ 65536) (hr : r ≤ p.win) (hp : p.ok)
  (ar : Option Addr) (ref : List Nat) (cap : Nat) (hcap : ref.length ≤ cap) (hris : Ris ref) (hr0 : 0 < r ∨ ref = []) (hA : LV W ar ref) (hAk : ∀ g o, ar = some ⟨g, o, none⟩ → 0 < ref.length → g < w.heap.size ∨ ∃ o', (g, o') ∈ ks) (q : List Nat × Nat) (hq : dec (unpack (nats s)) xv n deg ref r p a = some q) :
  Calls Tryd.prog 22 #[.pointer (some ⟨rb, 0, none⟩), .int .i64 (xv : Int), .int .i64 (n : Int), .agg #[.int .i64 (deg : Int), .int .i64 (r : Int)], .slice ar ref.length cap, parV (p.win : Int) (p.itv : Int) (p.zet : Int)] W fun e w' =>
   ∃ v kv, e = .returned (.tuple #[v, .int .i64 0]) ∧ w'.ownsRow 0 60 1 v q.1.length (u32V q.1) ∧ (∀ g, v.ownBlock = some g → ∃ o, (g, o) ∈ kv) ∧ (∀ p ∈ kv, some p.1 = v.ownBlock ∧ W.heap.size ≤ p.1) ∧ FS w wr (some (rb, s, q.2)) (kv ++ ks) w' := by
 have kb := h.below
 obtain ⟨x, hf, hw, hrd, hk⟩ := h
 obtain ⟨m, hm0, hm⟩ := fresh x 100 W.heap.size
 have e0 : x 0 = 100 := hf.col 0 (World.block_lt_of_cell? _ _ hG.g0)
 have e1 : x 1 = 100 := hf.col 1 (World.block_lt_of_cell? _ _ hG.u0)
 have hre : RE x 5 1 m W rb s a [] W := RE.start (hrd _ rfl) (Below.refl _ _) [] (fun p hp => by cases hp)
 refine (decode_any x 5 1 m (by decide) (by omega) (by omega) W (hG.below kb) (by unfold GlC; rw [e0, e1]; omega) rb s a [] W hre xv n deg r p hx hn hd hr hp ar ref cap hcap hris hr0 hA (fun g o e h0 => ?_)).mono ?_
 ·have hc : x g = 100 ∨ x g = 4 := by
   rcases hAk g o e h0 with h | ⟨o', h⟩
   ·exact .inl (hf.col g h)
   ·exact .inr (hk _ h).1
  rcases hc with hc | hc <;> · rw [hc]; omega
 ·intro e w' hD
  rw [hq] at hD
  obtain ⟨v, rfl, h1, kv, h2, h3, _, x', f2, hr2, hk2⟩ := hD
  have hnew : ∀ p ∈ kv, W.heap.size ≤ p.1 := fun p hp => by
   rcases Nat.lt_or_ge p.1 W.heap.size with hl | hl
   ·have c1 := f2.col p.1 hl
    have c2 := (hk2 p (List.mem_append_left _ hp)).1
    have := hm p.1 hl
    omega
   ·exact hl
  have f3 : Fr x (fun b => if b < W.heap.size then x b else if some b = v.ownBlock then 4 else 6) (fun c => c = 5 ∨ c = 1 ∨ c = 4 ∨ c = 6) W w' := ⟨f2.os, f2.tape, f2.output, f2.size, fun b hb => if_pos hb, fun b hb _ => by
   show (if b < W.heap.size then x b else if some b = v.ownBlock then 4 else 6) = 5 ∨ (if b < W.heap.size then x b else if some b = v.ownBlock then 4 else 6) = 1 ∨ (if b < W.heap.size then x b else if some b = v.ownBlock then 4 else 6) = 4 ∨ (if b < W.heap.size then x b else if some b = v.ownBlock then 4 else 6) = 6
   rw [if_neg (by omega)]
   split
   ·exact .inr (.inr (.inl rfl))
   ·exact .inr (.inr (.inr rfl)), fun b hb hC => f2.old b hb (fun hc => by
    have := hm b hb
    rcases hc with hc | hc | hc
    ·exact hC (.inl hc)
    ·exact hC (.inr (.inl hc))
    ·omega)⟩
  obtain ⟨r1, r2, r3⟩ := hrd _ rfl
  have hrlt := lt_of_block r1
  refine ⟨v, kv, rfl, h1, h2, fun p hp => ⟨h3 p hp, hnew p hp⟩, _, hf.trans (f3.mono (fun c hc => by show c < 50; omega)), fun q' e => (hw q' e).frame f3 (by decide), fun q' e => ?_, fun p hp => ?_⟩
  ·cases e
   exact ⟨hr2.1, (if_pos hrlt).trans r2, hr2.2.2⟩
  ·rcases List.mem_append.1 hp with hp | hp
   ·refine ⟨?_, (hk2 p (List.mem_append_left _ hp)).2⟩
    show (if p.1 < W.heap.size then x p.1 else if some p.1 = v.ownBlock then 4 else 6) = 4
    rw [if_neg (by have := hnew p hp; omega), if_pos (h3 p hp)]
   ·obtain ⟨c1, c2⟩ := hk p hp
    have hl := lt_of_block c2
    refine ⟨(if_pos hl).trans c1, (f2.old p.1 hl (by rw [c1]; omega)).trans c2⟩
end Go.Proofs.YtflnpcgnenhogaaDoor.ls
namespace Go.Proofs.YtflnpcgnenhogaaDoor.ls
open Go.RowKit Go.Proofs.YtflnpcgnenhogaaDoor.own Go.Proofs.YtflnpcgnenhogaaDoor.bit

/-- the lists that are read, the place behind them -/
def readB (b : Bp) (n : Nat) (B : Bits) (f : Nat) : Nat → Option (List Tk × Nat)
 | 0 => some ([], f)
 | k + 1 => (readB b n B f k).bind fun s => (nextB b s.1 n B s.2).bind fun q => if edges ((s.1 ++ [q.1]).map (·.1)) ≤ 1048576 then some (s.1 ++ [q.1], q.2) else none
def rplace (b : Bp) (n : Nat) (B : Bits) (f i : Nat) : Nat := match readB b n B f i with
 | some s => s.2 - f
 | none => 0
def rplaces (b : Bp) (n : Nat) (B : Bits) (f m : Nat) : List Nat := (List.range m).map (rplace b n B f)
theorem rplaces_succ (b : Bp) (n : Nat) (B : Bits) (f m : Nat) : rplaces b n B f (m + 1) = rplaces b n B f m ++ [rplace b n B f m] := by
 unfold rplaces
 rw [List.range_succ, List.map_append]
 rfl
theorem rplaces_length (b : Bp) (n : Nat) (B : Bits) (f m : Nat) : (rplaces b n B f m).length = m := by unfold rplaces; rw [List.length_map, List.length_range]
theorem rplaces_one (b : Bp) (n : Nat) (B : Bits) (f : Nat) : rplaces b n B f 1 = [0] := by
 show [rplace b n B f 0] = [0]
 unfold rplace readB
 simp
theorem hread_some {win a : Nat} {B : Bits} {q : Nat × Nat × Nat} (h : hread win B a = some q) : a ≤ q.2.2 ∧ q.1 ≤ 65536 ∧ q.2.1 ≤ win := by
 unfold hread at h
 obtain ⟨q1, h1, h⟩ := Option.bind_eq_some_iff.1 h
 split at h
 ·obtain ⟨q2, h2, h⟩ := Option.bind_eq_some_iff.1 h
  split at h
  ·rename_i hc
   injection h with h
   subst h
   exact ⟨by dsimp only; omega, hc.1, hc.2⟩
  ·cases h
 ·split at h
  ·rename_i hc
   injection h with h
   subst h
   exact ⟨by dsimp only; omega, hc, Nat.zero_le _⟩
  ·cases h
theorem hread_end {win a : Nat} {B : Bits} {q : Nat × Nat × Nat} (h : hread win B a = some q) (ha : a ≤ B.length) : q.2.2 ≤ B.length := by
 unfold hread at h
 obtain ⟨q1, h1, h⟩ := Option.bind_eq_some_iff.1 h
 have b1 := (rd_bound .gam (by trivial) h1).2
 rw [List.length_drop] at b1
 split at h
 ·obtain ⟨q2, h2, h⟩ := Option.bind_eq_some_iff.1 h
  have b2 := (rd_bound .una (by trivial) h2).2
  rw [List.length_drop] at b2
  split at h
  ·injection h with h
   subst h
   dsimp only
   omega
  ·cases h
 ·split at h
  ·injection h with h
   subst h
   dsimp only
   omega
  ·cases h
theorem dec_some {B : Bits} {x n deg : Nat} {ref : List Nat} {r : Nat} {p : Pr} (hp : p.ok) {a : Nat} {q : List Nat × Nat} (ha : a ≤ B.length) (h : dec B x n deg ref r p a = some q) : q.1.Pairwise (· < ·) ∧ q.1.length = deg ∧ (∀ v ∈ q.1, v < n) ∧ a ≤ q.2 := by
 unfold dec at h
 obtain ⟨⟨c, l, z, a'⟩, h1, h⟩ := Option.bind_eq_some_iff.1 h
 have k := pars_le hp h1 ha
 split at h
 ·rename_i hc
  injection h with h
  subst h
  have pm := srtN_perm (c ++ l ++ z)
  exact ⟨hc.1, pm.length_eq.trans hc.2.1, fun v hv => hc.2.2.1 v (pm.mem_iff.1 hv), k.1⟩
 ·cases h
/-- what a next list is -/
theorem nextB_some {b : Bp} (hb : b.p.ok) {T : List Tk} {n a : Nat} {B : Bits} {q : Tk × Nat} (hn : n ≤ 65536) (ha : a ≤ B.length) (h : nextB b T n B a = some q) : Ris q.1.1 ∧ q.1.1.length ≤ n ∧ (∀ v ∈ q.1.1, v < n) ∧ a ≤ q.2 := by
 unfold nextB at h
 obtain ⟨⟨deg, ref, a1⟩, hh, h⟩ := Option.bind_eq_some_iff.1 h
 obtain ⟨⟨byL, ch⟩, ht, h⟩ := Option.bind_eq_some_iff.1 h
 obtain ⟨⟨l, a2⟩, hdc, h⟩ := Option.bind_eq_some_iff.1 h
 injection h with h
 subst h
 have h1 := (hread_some hh).1
 have h2 := hread_end hh ha
 dsimp only at h1 h2 hdc ⊢
 obtain ⟨d1, d2, d3, d4⟩ := dec_some hb h2 hdc
 dsimp only at d1 d2 d3 d4
 exact ⟨⟨d1, fun v hv => by have := d3 v hv; omega⟩, rise_len d1 d3, d3, by omega⟩
theorem readB_some {b : Bp} (hb : b.p.ok) {n f : Nat} {B : Bits} (hn : n ≤ 65536) (hf : f ≤ B.length) : ∀ k s, readB b n B f k = some s → s.2 ≤ B.length → s.1.length = k ∧ TOk s.1 ∧ f ≤ s.2 ∧ edges (s.1.map (·.1)) ≤ 1048576 ∧ (∀ t ∈ s.1, t.1.length ≤ n)
 | 0, s, h, _ => by
  injection h with h
  subst h
  exact ⟨rfl, (fun t ht => nomatch ht : TOk []), Nat.le_refl _, Nat.zero_le _, (fun t ht => nomatch ht : ∀ t ∈ ([] : List Tk), t.1.length ≤ n)⟩
 | k + 1, s, h, hs => by
  unfold readB at h
  obtain ⟨s0, h0, h⟩ := Option.bind_eq_some_iff.1 h
  obtain ⟨q, hq, h⟩ := Option.bind_eq_some_iff.1 h
  split at h
  ·rename_i hE
   injection h with h
   subst h
   dsimp only at hs ⊢
   have ha : s0.2 ≤ B.length := by
    rcases Nat.lt_or_ge B.length s0.2 with hl | hl
    ·exfalso
     unfold nextB at hq
     obtain ⟨⟨deg, ref, a1⟩, hh, hq⟩ := Option.bind_eq_some_iff.1 hq
     unfold hread at hh
     obtain ⟨q1, h1, hh⟩ := Option.bind_eq_some_iff.1 hh
     have b1 := (rd_bound .gam (by trivial) h1).2
     have b2 := rd_pos .gam h1
     rw [List.length_drop] at b1
     omega
    ·exact hl
   obtain ⟨i1, i2, i3, i4, i5⟩ := readB_some hb hn hf k s0 h0 ha
   obtain ⟨n1, n2, n3, n4⟩ := nextB_some hb hn ha hq
   refine ⟨by rw [List.length_append, i1]; rfl, fun t ht => ?_, by omega, hE, fun t ht => ?_⟩
   ·rcases List.mem_append.1 ht with ht | ht
    ·exact i2 t ht
    ·rw [List.mem_singleton.1 ht]; exact n1
   ·rcases List.mem_append.1 ht with ht | ht
    ·exact i5 t ht
    ·rw [List.mem_singleton.1 ht]; exact n2
  ·cases h
theorem readB_none {b : Bp} {n f : Nat} {B : Bits} {k m : Nat} (h : readB b n B f k = none) (hm : k ≤ m) : readB b n B f m = none := by
 induction m with
 | zero => rw [Nat.le_zero.1 hm] at h; exact h
 | succ m ih =>
  rcases Nat.lt_or_ge k (m + 1) with hl | hl
  ·unfold readB
   rw [ih (by omega)]
   rfl
  ·rwa [show m + 1 = k by omega]
/-- there and back -/
theorem readB_back {b : Bp} (hb : b.p.ok) (G : List (List Nat)) (h : ∀ l ∈ G, Ris l) (hn : G.length ≤ 65536) (hv : ∀ l ∈ G, ∀ v ∈ l, v < G.length) (hE : edges G ≤ 1048576) (R : Bits) : ∀ k, k ≤ G.length → readB b G.length ((stB b G).2 ++ R) 0 k = some ((stB b (G.take k)).1, (stB b (G.take k)).2.length)
 | 0, _ => by rw [List.take_zero]; rfl
 | k + 1, hk => by
  unfold readB
  rw [readB_back hb G h hn hv hE R k (by omega)]
  show (nextB b (stB b (G.take k)).1 G.length ((stB b G).2 ++ R) (stB b (G.take k)).2.length).bind _ = _
  rw [back_ok hb G h hn hv R k (by omega)]
  obtain ⟨_, _, e⟩ := stB_at b G k (by omega)
  have e1 : (stB b (G.take k)).1 ++ [putB b (stB b (G.take k)).1 G[k]] = (stB b (G.take (k + 1))).1 := by rw [e]; rfl
  show (if edges (((stB b (G.take k)).1 ++ [putB b (stB b (G.take k)).1 G[k]]).map (·.1)) ≤ 1048576 then _ else _) = _
  rw [e1, stB_map, if_pos (Nat.le_trans (edges_take_le G (k + 1)) hE)]
theorem rplaces_back {b : Bp} (hb : b.p.ok) (G : List (List Nat)) (h : ∀ l ∈ G, Ris l) (hn : G.length ≤ 65536) (hv : ∀ l ∈ G, ∀ v ∈ l, v < G.length) (hE : edges G ≤ 1048576) (R : Bits) (m : Nat) (hm : m ≤ G.length + 1) : rplaces b G.length ((stB b G).2 ++ R) 0 m = atB b G m := by
 unfold rplaces atB
 apply List.map_congr_left
 intro i hi
 have := List.mem_range.1 hi
 unfold rplace
 rw [readB_back hb G h hn hv hE R i (by omega)]
 rfl

/-! ### rows of a call's own, each in blocks of its own -/
def KA (ka : List (Nat × Obj)) (v : Value) : Prop := (∀ g, v.ownBlock = some g → ∃ o, (g, o) ∈ ka) ∧ ∀ p ∈ ka, some p.1 = v.ownBlock
theorem KA.none : KA [] (.slice none 0 0) := ⟨fun g hg => (by cases hg), fun p hp => (by cases hp)⟩
def Off (K : List (Nat × Obj)) (v : Value) : Prop := ∀ p ∈ K, some p.1 ≠ v.ownBlock
theorem Off.none (K : List (Nat × Obj)) : Off K (.slice none 0 0) := fun p _ e => by cases e
theorem KA.has {ka K : List (Nat × Obj)} {v : Value} {w W W' : World} {wr wr' : Option (Nat × Bits)} {rd rd' : Option (Nat × ByteArray × Nat)} {K' : List (Nat × Obj)} {T : TypeId} {sz n : Nat} {xs : List Value} (h : KA ka v) (f : FS w wr rd K W) (f' : FS w wr' rd' K' W') (hk : ∀ p ∈ ka, p ∈ K ∧ p ∈ K') (own : W.ownsRow 0 T sz v n xs) : W'.ownsRow 0 T sz v n xs :=
 own_same2 own (fun g hg => by
  obtain ⟨o, ho⟩ := h.1 g hg
  rw [f.row (hk _ ho).1, f'.row (hk _ ho).2])
/-- such a row grows, the rest stands still -/
theorem FS.push {w W W2 : World} {wr : Option (Nat × Bits)} {rd : Option (Nat × ByteArray × Nat)} {ka K : List (Nat × Obj)} {v v' : Value} {T : TypeId} {n : Nat} {xs : List Value} (h : FS w wr rd (ka ++ K) W) (ha : KA ka v) (hoff : Off K v) (hg : W.grownBy W2 v.ownBlock) (own : W2.ownsRow 0 T 1 v' n xs) (hw : v'.ownBlock = v.ownBlock ∨ v'.ownBlock = some W.heap.size) :
  ∃ k2, KA k2 v' ∧ Off K v' ∧ FS w wr rd (k2 ++ K) W2 ∧ ∀ p ∈ k2, (∃ o, (p.1, o) ∈ ka) ∨ W.heap.size ≤ p.1 := by
 obtain ⟨k2, hk1, hk2, hk3⟩ := own_ks own
 have old : ∀ p ∈ K, p.1 < W.heap.size := fun p hp => lt_of_block (h.row (b := p.1) (o := p.2) (List.mem_append_right _ hp))
 refine ⟨k2, ⟨hk1, hk2⟩, fun p hp => own_new hw (old p hp) (hoff p hp), h.grown hg (fun g e => ?_) (fun p hp => ?_), fun p hp => ?_⟩
 ·obtain ⟨o, ho⟩ := ha.1 g e
  exact ⟨o, List.mem_append_left _ ho⟩
 ·rcases List.mem_append.1 hp with hp | hp
  ·refine .inr ⟨?_, hk3 p hp⟩
   rcases hw with e | e
   ·exact .inl ((hk2 p hp).trans e)
   ·have := (hk2 p hp).trans e
    injection this with this
    exact .inr (by omega)
  ·exact .inl ⟨List.mem_append_right _ hp, hoff p hp⟩
 ·rcases hw with e | e
  ·have := (hk2 p hp).trans e
   exact .inl (ha.1 _ this.symm)
  ·have := (hk2 p hp).trans e
   injection this with this
   exact .inr (by omega)
end Go.Proofs.YtflnpcgnenhogaaDoor.ls
namespace Go.Proofs.YtflnpcgnenhogaaDoor.ls
open Go.RowKit Go.Proofs.YtflnpcgnenhogaaDoor.own Go.Proofs.YtflnpcgnenhogaaDoor.bit

/-- a reader, the ring of the last lists, its lists, rows beside -/
def NX (w : World) (wr : Option (Nat × Bits)) (T : List Tk) (rb : Nat) (s : ByteArray) (a lb : Nat) (ls ks : List (Nat × Obj)) (W : World) : Prop :=
 ∃ row, FS w wr (some (rb, s, a)) ((lb, .cells row 116 (0, 0)) :: (ls ++ ks)) W ∧ (∀ p ∈ ls ++ ks, p.1 ≠ lb) ∧ row.size = 35 ∧ Ring T row 0 ls
/-- the answer of next -/
def NextP (w : World) (wr : Option (Nat × Bits)) (N : Nat) (T : List Tk) (rb : Nat) (s : ByteArray) (lb : Nat) (ls ks : List (Nat × Obj)) (O : Option (Tk × Nat)) (e : Ending) (w' : World) : Prop :=
 match O with
 | some q => ∃ v kv, e = .returned (.tuple #[v, .bool true]) ∧ w'.ownsRow 0 60 1 v q.1.1.length (u32V q.1.1) ∧ (∀ p ∈ kv, N ≤ p.1) ∧ NX w wr (T ++ [q.1]) rb s q.2 lb (kv ++ ls) ks w'
 | none => e = .returned (.tuple #[.slice none 0 0, .bool false]) ∧ ∃ a', NX w wr T rb s a' lb ls ks w'
/-- a list that a call made stands in the blocks that are told -/
theorem own_in {W : World} {v : Value} {l : List Nat} {kv : List (Nat × Obj)} (own : W.ownsRow 0 60 1 v l.length (u32V l)) (hk : ∀ g, v.ownBlock = some g → ∃ o, (g, o) ∈ kv) (hW : ∀ p ∈ kv, W.heap[p.1]? = some p.2) (hl : l.length ≤ 65536) (hb : ∀ x ∈ l, x < 4294967296) : ∃ (s : Option Addr) (d : Nat), v = .slice s l.length d ∧ l.length ≤ d ∧ Stands kv s l := by
 rcases own.2 with ⟨rfl, h0⟩ | ⟨g, cap, cur, rfl, hbg, hg, hn, _, _, htake⟩
 ·have hl0 : l = [] := List.eq_nil_of_length_eq_zero h0
  subst hl0
  exact ⟨none, 0, rfl, Nat.le_refl _, fun W _ => LV.nil⟩
 ·obtain ⟨o, ho⟩ := hk g rfl
  refine ⟨_, cap, rfl, hn, fun W' hW' => ⟨by omega, fun i hi => ?_⟩⟩
  have hr := hW' _ ho
  have hr0 := hW _ ho
  dsimp only at hr hr0
  rw [hg] at hr0
  injection hr0 with hr0
  rw [← hr0] at hr
  refine ⟨g, 0, rfl, lt_of_block hr, ?_, hb _ (List.getElem_mem hi)⟩
  have hx : (u32V l)[i]? = some (.int .u32 (l[i] : Int)) := by unfold u32V; rw [List.getElem?_map, List.getElem?_eq_getElem hi]; rfl
  rw [← htake, List.getElem?_take_of_lt (by omega)] at hx
  rw [Nat.zero_add, cell_of_row _ _ _ _ _ _ hr, ← Array.getElem?_toList]
  exact hx
theorem taken_some {b : Bp} {T : List Tk} {deg ref : Nat} {t : List Nat × Nat} (hT : TOk T) (hdp : b.depth ≤ 16) (h : takenB b T deg ref = some t) : Ris t.1 ∧ (0 < ref ∨ t.1 = []) ∧ t.2 ≤ 16 := by
 unfold takenB at h
 split at h
 ·rename_i hc
  cases hB : backB b T ref deg with
  | none => rw [hB] at h; cases h
  | some q =>
   rw [hB] at h
   injection h with h
   subst h
   obtain ⟨_, _, _, h4, h5⟩ := back_some hB
   unfold tkMay at h4
   refine ⟨?_, .inl hc, ?_⟩
   ·rw [h5]; exact tkOf_ris hT ref
   ·dsimp only; omega
 ·injection h with h
  subst h
  exact ⟨Ris.nil, .inr rfl, Nat.zero_le _⟩
/-- what Decode of a list answers -/
def DecG (w : World) (wr : Option (Nat × Bits)) (N rb : Nat) (s : ByteArray) (a : Nat) (ks : List (Nat × Obj)) (O : Option (List Nat × Nat)) (v : Value) (ec : Int) (w' : World) : Prop :=
 match O with
 | some q => ec = 0 ∧ ∃ kv : List (Nat × Obj), w'.ownsRow 0 60 1 v q.1.length (u32V q.1) ∧ (∀ g, v.ownBlock = some g → ∃ o, (g, o) ∈ kv) ∧ (∀ p ∈ kv, N ≤ p.1) ∧ FS w wr (some (rb, s, q.2)) (kv ++ ks) w'
 | none => ec = 4 ∧ v = .slice none 0 0 ∧ FS w wr (some (rb, s, a)) ks w'
def DecF (w : World) (wr : Option (Nat × Bits)) (N rb : Nat) (s : ByteArray) (a : Nat) (ks : List (Nat × Obj)) (O : Option (List Nat × Nat)) (e : Ending) (w' : World) : Prop :=
 ∃ (v : Value) (ec : Int), e = .returned (.tuple #[v, .int .i64 ec]) ∧ DecG w wr N rb s a ks O v ec w'
theorem DecG.mono {w w' : World} {wr : Option (Nat × Bits)} {N N' rb : Nat} {s : ByteArray} {a : Nat} {ks : List (Nat × Obj)} {O : Option (List Nat × Nat)} {v : Value} {ec : Int} (h : DecG w wr N rb s a ks O v ec w') (hN : N' ≤ N) : DecG w wr N' rb s a ks O v ec w' := by
 cases O with
 | none => exact h
 | some q =>
  obtain ⟨h1, kv, h2, h3, h4, h5⟩ := h
  exact ⟨h1, kv, h2, h3, fun p hp => by have := h4 p hp; omega, h5⟩
/-- the block of a list that stands is among these -/
theorem Stands.mem {ls : List (Nat × Obj)} {sl : Option Addr} {l : List Nat} (h : Stands ls sl l) {W : World} (hW : ∀ p ∈ ls, W.heap[p.1]? = some p.2) (h0 : 0 < l.length) {g o : Nat} (hs : sl = some ⟨g, o, none⟩) : ∃ o', (g, o') ∈ ls := by
 obtain ⟨g1, o1, e1, hlt, hc, _⟩ := (h W hW).2 0 h0
 rw [hs] at e1
 injection e1 with e1
 injection e1 with e2 e3
 subst e2 e3
 refine Classical.byContradiction fun hno => ?_
 have hW2 : ∀ p ∈ ls, ({ W with heap := W.heap.setIfInBounds g (.cells #[] 60 (0, 0)) } : World).heap[p.1]? = some p.2 := fun p hp => by
  show (W.heap.setIfInBounds g _)[p.1]? = _
  rw [Array.getElem?_setIfInBounds_ne (fun e => hno ⟨p.2, by rw [e]; exact hp⟩)]
  exact hW p hp
 obtain ⟨g2, o2, e4, _, hc2, _⟩ := (h _ hW2).2 0 h0
 rw [hs] at e4
 injection e4 with e4
 injection e4 with e5 e6
 subst e5 e6
 have hr : ({ W with heap := W.heap.setIfInBounds g (.cells #[] 60 (0, 0)) } : World).heap[g]? = some (.cells #[] 60 (0, 0)) := by
  show (W.heap.setIfInBounds g _)[g]? = _
  rw [Array.getElem?_setIfInBounds, if_pos rfl, if_pos hlt]
 rw [cell_of_row _ _ _ _ _ _ hr] at hc2
 simp at hc2
theorem FS.decode5 {w W : World} {rb a : Nat} {s : ByteArray} {wr : Option (Nat × Bits)} {ks : List (Nat × Obj)} (h : FS w wr (some (rb, s, a)) ks W) (hG : GL w) (xv n deg r : Nat) (p : Pr) (hx : xv < 65536) (hn : n ≤ 65536) (hd : deg ≤ 65536) (hr : r ≤ p.win) (hp : p.ok)
  (ar : Option Addr) (ref : List Nat) (cap : Nat) (hcap : ref.length ≤ cap) (hris : Ris ref) (hr0 : 0 < r ∨ ref = []) (hA : LV W ar ref) (hAk : ∀ g o, ar = some ⟨g, o, none⟩ → 0 < ref.length → g < w.heap.size ∨ ∃ o', (g, o') ∈ ks) :
  Calls Tryd.prog 22 #[.pointer (some ⟨rb, 0, none⟩), .int .i64 (xv : Int), .int .i64 (n : Int), .agg #[.int .i64 (deg : Int), .int .i64 (r : Int)], .slice ar ref.length cap, parV (p.win : Int) (p.itv : Int) (p.zet : Int)] W (DecF w wr W.heap.size rb s a ks (dec (unpack (nats s)) xv n deg ref r p a)) := by
 cases hq : dec (unpack (nats s)) xv n deg ref r p a with
 | some q =>
  refine (h.decode4 hG xv n deg r p hx hn hd hr hp ar ref cap hcap hris hr0 hA hAk q hq).mono ?_
  rintro e w' ⟨v, kv, h1, h2, h3, h4, h5⟩
  exact ⟨v, 0, h1, rfl, kv, h2, h3, fun p hp => (h4 p hp).2, h5⟩
 | none =>
  have kb := h.below
  obtain ⟨x, hf, hw, hrd, hk⟩ := h
  obtain ⟨m, hm0, hm⟩ := fresh x 100 W.heap.size
  have e0 : x 0 = 100 := hf.col 0 (World.block_lt_of_cell? _ _ hG.g0)
  have e1 : x 1 = 100 := hf.col 1 (World.block_lt_of_cell? _ _ hG.u0)
  have hre : RE x 5 1 m W rb s a [] W := RE.start (hrd _ rfl) (Below.refl _ _) [] (fun p hp => by cases hp)
  refine (decode_any x 5 1 m (by decide) (by omega) (by omega) W (hG.below kb) (by unfold GlC; rw [e0, e1]; omega) rb s a [] W hre xv n deg r p hx hn hd hr hp ar ref cap hcap hris hr0 hA (fun g o e h0 => ?_)).mono ?_
  ·have hc : x g = 100 ∨ x g = 4 := by
    rcases hAk g o e h0 with h | ⟨o', h⟩
    ·exact .inl (hf.col g h)
    ·exact .inr (hk _ h).1
   rcases hc with hc | hc <;> · rw [hc]; omega
  ·intro e w' hD
   rw [hq] at hD
   obtain ⟨rfl, x', f2, hr2, hk2⟩ := hD
   refine ⟨_, _, rfl, rfl, rfl, ?_⟩
   have f3 : Fr x (fun b => if b < W.heap.size then x b else 6) (fun c => c = 5 ∨ c = 1 ∨ c = 6) W w' := ⟨f2.os, f2.tape, f2.output, f2.size, fun b hb => if_pos hb, fun b hb _ => by
    show (if b < W.heap.size then x b else 6) = 5 ∨ (if b < W.heap.size then x b else 6) = 1 ∨ (if b < W.heap.size then x b else 6) = 6
    rw [if_neg (by omega)]
    exact .inr (.inr rfl), fun b hb hC => f2.old b hb (fun hc => by
     have := hm b hb
     rcases hc with hc | hc | hc
     ·exact hC (.inl hc)
     ·exact hC (.inr (.inl hc))
     ·omega)⟩
   obtain ⟨r1, r2, r3⟩ := hrd _ rfl
   have hrlt := lt_of_block r1
   refine ⟨_, hf.trans (f3.mono (fun c hc => by show c < 50; omega)), fun q' e => (hw q' e).frame f3 (by decide), fun q' e => ?_, fun p hp => ?_⟩
   ·cases e
    exact ⟨hr2.1, (if_pos hrlt).trans r2, hr2.2.2⟩
   ·obtain ⟨c1, c2⟩ := hk p hp
    have hl := lt_of_block c2
    exact ⟨(if_pos hl).trans c1, (f2.old p.1 hl (by rw [c1]; omega)).trans c2⟩
set_option maxRecDepth 100000 in
set_option maxHeartbeats 6400000 in
theorem next_any {w W : World} {wr : Option (Nat × Bits)} {b : Bp} {T : List Tk} {rb : Nat} {s : ByteArray} {a lb : Nat} {ls ks : List (Nat × Obj)} (h : NX w wr T rb s a lb ls ks W) (hG : GL w) (hb : b.p.ok) (hdp : b.depth ≤ 16) (hx : T.length < 65536) (hT : TOk T) (n : Nat) (hn : n ≤ 65536) :
  Calls Tryd.prog 53 #[.pointer (some ⟨lb, 0, none⟩), .pointer (some ⟨rb, 0, none⟩), .int .i64 (n : Int), bpV (b.p.win : Int) (b.depth : Int) (b.p.itv : Int) (b.p.zet : Int) (b.cap : Int)] W (NextP w wr W.heap.size T rb s lb ls ks (nextB b T n (unpack (nats s)) a)) := by
 obtain ⟨row, hF, hne, hz, hR⟩ := h
 have hlbl := lt_of_block (hF.row (List.mem_cons_self ..))
 have HF := Lib.hid hF
 have HNE := Lib.hid hne
 have HR := Lib.hid hR
 have HZ := Lib.hid hz
 have HT := Lib.hid hT
 have BL := Lib.hid (fun W' => blist_any (b.p.win : Int) (b.depth : Int) (b.p.itv : Int) (b.p.zet : Int) (b.cap : Int) W')
 have HD := Lib.hid (fun W' K (h' : FS w wr (some (rb, s, a)) K W') => h'.head hG b.p hb)
 have NO : Hid (∀ a' W', nextB b T n (unpack (nats s)) a = none → FS w wr (some (rb, s, a')) ((lb, .cells row 116 (0, 0)) :: (ls ++ ks)) W' → NextP w wr W.heap.size T rb s lb ls ks (nextB b T n (unpack (nats s)) a) (.returned (.tuple #[.slice none 0 0, .bool false])) W') := Lib.hid (fun a' W' e h' => by
  rw [e]
  exact ⟨rfl, a', row, h', hne, hz, hR⟩)
 obtain ⟨O, hO⟩ : ∃ O, hread b.p.win (unpack (nats s)) a = O := ⟨_, rfl⟩
 have HO := Lib.hid hO
 rw [hO] at HD
 unfold bpV parV at BL
 unfold parV at HD
 unfold bpV
 clear hF hne hR hz hO hT
 obtain ⟨pb, hpb⟩ : ∃ z, W.heap.size = z := ⟨_, rfl⟩
 rw [hpb] at NO hlbl ⊢
 go_enter Tryd.func53, Tryd.ntmps53
 go_wp2_with fail
 have F1 := HF.out.add #[.int .i64 (b.p.win : Int), .int .i64 (b.depth : Int), .int .i64 (b.p.itv : Int), .int .i64 (b.p.zet : Int), .int .i64 (b.cap : Int)] 70
 have hpl : lb ≠ pb := by omega
 with_reducible refine (BL.out _).mono ?_
 rintro e w2 ⟨rfl, k2⟩
 have F2 := Lib.hid (F1.next k2)
 rw [hpb] at F2
 have HD2 := Lib.hid (HD.out _ _ F2.out)
 clear F1 k2 hpb
 go_wp2_with fail
 with_reducible refine HD2.out.mono ?_
 rintro e w3 ⟨rfl, h3⟩
 obtain ⟨hb3, hhb⟩ : ∃ z, w3.heap.size = z := ⟨_, rfl⟩
 have hp3 : pb < hb3 := by
  have := lt_of_block (h3.row (List.mem_cons_self ..))
  omega
 have hl3 : lb < hb3 := by
  have := lt_of_block (h3.row (List.mem_cons_of_mem _ (List.mem_cons_self ..)))
  omega
 have F3 := Lib.hid h3
 clear h3 HD2 F2
 cases O with
 | none =>
  unfold hrA at F3
  unfold hrV
  dsimp only at F3 ⊢
  go_upto_region 2 with fail
  have F4 := Lib.hid (F3.out.add #[.int .i64 0, .int .i64 0] 55)
  generalize hW4 : World.alloc w3 _ = w4 at F4 ⊢
  clear hW4
  go_wp2_with fail
  exact bodyPost_ret (v := .tuple #[.slice none 0 0, .bool false]) (by simp [results, Tryd.results53, go_sem]) rfl (NO.out _ _ (by unfold nextB; rw [HO.out]; rfl) (F4.out.sub (fun p hp => List.mem_cons_of_mem _ (List.mem_cons_of_mem _ hp))))
 | some q =>
  obtain ⟨deg, ref, a1⟩ := q
  obtain ⟨-, hdeg, href⟩ := hread_some HO.out
  dsimp only at hdeg href
  unfold hrA at F3
  unfold hrV
  dsimp only at F3 ⊢
  go_upto_region 2 with fail
  have F4 := Lib.hid (F3.out.add #[.int .i64 (deg : Int), .int .i64 (ref : Int)] 55)
  generalize hW4 : World.alloc w3 _ = w4 at F4 ⊢
  clear hW4
  rw [hhb] at F4
  go_upto_region 4 with fail
  have F5 := Lib.hid (F4.out.add #[.slice none 0 0, .int .i64 0] 113)
  obtain ⟨tb, htb⟩ : ∃ z, w4.heap.size = z := ⟨_, rfl⟩
  have ht4 : hb3 < tb := by
   have := lt_of_block (F4.out.row (List.mem_cons_self ..))
   omega
  go_upto_region 6 with fail
  rw [htb] at F5
  generalize hW5 : World.alloc w4 _ = w5 at F5 ⊢
  have HTB : Hid (∀ p ∈ ((hb3, Obj.cells #[.int .i64 (deg : Int), .int .i64 (ref : Int)] 55 (0, 0)) :: (pb, Obj.cells #[.int .i64 (b.p.win : Int), .int .i64 (b.depth : Int), .int .i64 (b.p.itv : Int), .int .i64 (b.p.zet : Int), .int .i64 (b.cap : Int)] 70 (0, 0)) :: (lb, Obj.cells row 116 (0, 0)) :: (ls ++ ks)), p.1 ≠ tb) := Lib.hid (fun p hp e => by
   have := lt_of_block (F4.out.row (b := p.1) (o := p.2) hp)
   omega)
  clear hW5 hhb htb F4
  have c1 : w5.cell? ⟨hb3, 1, none⟩ = some (.int .i64 (ref : Int)) := by rw [cell_of_row _ _ _ _ _ _ (F5.out.row (List.mem_cons_of_mem _ (List.mem_cons_self ..)))]; rfl
  go_upto_if 27 with fail
  go_cut [13] from 14 to 42 (fun v13 wc => ∃ (byL : List Nat) (ch : Nat) (sl : Option Addr) (d : Nat) (u : Value), takenB b T deg ref = some (byL, ch) ∧ v13 = .int .i64 (ch : Int) ∧ byL.length ≤ d ∧ Stands ls sl byL ∧ FS w wr (some (rb, s, a1)) ((tb, .cells #[.slice sl byL.length d, u] 113 (0, 0)) :: (hb3, .cells #[.int .i64 (deg : Int), .int .i64 (ref : Int)] 55 (0, 0)) :: (pb, .cells #[.int .i64 (b.p.win : Int), .int .i64 (b.depth : Int), .int .i64 (b.p.itv : Int), .int .i64 (b.p.zet : Int), .int .i64 (b.cap : Int)] 70 (0, 0)) :: (lb, .cells row 116 (0, 0)) :: (ls ++ ks)) wc)
  case first =>
   by_cases h0 : 0 < ref
   ·have j1 : decide ((0 : Int) < (ref : Int)) = true := decide_eq_true (by omega)
    have j1n : decide (0 < ref) = true := decide_eq_true h0
    have CF5 : Hid (∀ W', FS w wr (some (rb, s, a1)) ((tb, .cells #[.slice none 0 0, .int .i64 0] 113 (0, 0)) :: (hb3, .cells #[.int .i64 (deg : Int), .int .i64 (ref : Int)] 55 (0, 0)) :: (pb, .cells #[.int .i64 (b.p.win : Int), .int .i64 (b.depth : Int), .int .i64 (b.p.itv : Int), .int .i64 (b.p.zet : Int), .int .i64 (b.cap : Int)] 70 (0, 0)) :: (lb, .cells row 116 (0, 0)) :: (ls ++ ks)) W' →
      W'.cell? ⟨hb3, 0, none⟩ = some (.int .i64 (deg : Int)) ∧ W'.cell? ⟨pb, 0, none⟩ = some (.int .i64 (b.p.win : Int)) ∧ W'.cell? ⟨pb, 1, none⟩ = some (.int .i64 (b.depth : Int)) ∧ W'.cell? ⟨pb, 2, none⟩ = some (.int .i64 (b.p.itv : Int)) ∧ W'.cell? ⟨pb, 3, none⟩ = some (.int .i64 (b.p.zet : Int)) ∧ W'.cell? ⟨pb, 4, none⟩ = some (.int .i64 (b.cap : Int)) ∧
      Calls Tryd.prog 80 #[.pointer (some ⟨lb, 0, none⟩), .int .i64 (ref : Int), .int .i64 (deg : Int), .agg #[.int .i64 (b.p.win : Int), .int .i64 (b.depth : Int), .int .i64 (b.p.itv : Int), .int .i64 (b.p.zet : Int), .int .i64 (b.cap : Int)]] W' (BackP b T (ref : Int) deg ls W')) := Lib.hid (fun W' h' => by
     have e1 := h'.row (List.mem_cons_of_mem _ (List.mem_cons_self ..))
     have e2 := h'.row (List.mem_cons_of_mem _ (List.mem_cons_of_mem _ (List.mem_cons_self ..)))
     have e3 := h'.row (List.mem_cons_of_mem _ (List.mem_cons_of_mem _ (List.mem_cons_of_mem _ (List.mem_cons_self ..))))
     exact ⟨by rw [cell_of_row _ _ _ _ _ _ e1]; rfl, by rw [cell_of_row _ _ _ _ _ _ e2]; rfl, by rw [cell_of_row _ _ _ _ _ _ e2]; rfl, by rw [cell_of_row _ _ _ _ _ _ e2]; rfl, by rw [cell_of_row _ _ _ _ _ _ e2]; rfl, by rw [cell_of_row _ _ _ _ _ _ e2]; rfl, back_any b T (ref : Int) deg ls W' lb 0 row _ e3 HR.out (by omega) hb.1 (by omega) (fun t ht => (HT.out t ht).len)⟩)
    obtain ⟨c0, p0, p1, p2, p3, p4, hbk⟩ := CF5.out _ F5.out
    have HBK := Lib.hid hbk
    clear hbk CF5
    go_wp2_with fail
    with_reducible refine HBK.out.mono ?_
    rintro e w6 ⟨k6, v, u, bb, rfl, ⟨s1, n1, d1, z9, hv, hu⟩, hm⟩
    have hne : ∀ p ∈ ((hb3, Obj.cells #[.int .i64 (deg : Int), .int .i64 (ref : Int)] 55 (0, 0)) :: (pb, Obj.cells #[.int .i64 (b.p.win : Int), .int .i64 (b.depth : Int), .int .i64 (b.p.itv : Int), .int .i64 (b.p.zet : Int), .int .i64 (b.cap : Int)] 70 (0, 0)) :: (lb, Obj.cells row 116 (0, 0)) :: (ls ++ ks)), p.1 ≠ tb := HTB.out
    have F6 : Hid (FS w wr (some (rb, s, a1)) ((tb, .cells #[v, u] 113 (0, 0)) :: (hb3, .cells #[.int .i64 (deg : Int), .int .i64 (ref : Int)] 55 (0, 0)) :: (pb, .cells #[.int .i64 (b.p.win : Int), .int .i64 (b.depth : Int), .int .i64 (b.p.itv : Int), .int .i64 (b.p.zet : Int), .int .i64 (b.cap : Int)] 70 (0, 0)) :: (lb, .cells row 116 (0, 0)) :: (ls ++ ks)) ((w6.setCell ⟨tb, 0, none⟩ v).setCell ⟨tb, 1, none⟩ u)) := Lib.hid (((F5.out.next k6).store (j := 0) v hne).store (j := 1) u hne)
    rw [if_pos (Int.natCast_nonneg _), Int.toNat_natCast] at hm
    have f0 : w6.frozen? ⟨tb, 0, none⟩ = false := frozen_of_row w6 tb 0 _ _ ((F5.out.next k6).row (List.mem_cons_self ..))
    have f1 : w6.frozen? ⟨tb, 1, none⟩ = false := frozen_of_row w6 tb 1 _ _ ((F5.out.next k6).row (List.mem_cons_self ..))
    have z0 : w6.cell? ⟨tb, 0, none⟩ = some (.slice none 0 0) := by rw [cell_of_row _ _ _ _ _ _ ((F5.out.next k6).row (List.mem_cons_self ..))]; rfl
    have z1 : w6.cell? ⟨tb, 1, none⟩ = some (.int .i64 0) := by rw [cell_of_row _ _ _ _ _ _ ((F5.out.next k6).row (List.mem_cons_self ..))]; rfl
    clear hne c0 c1 p0 p1 p2 p3 p4 HBK
    cases hB : backB b T ref deg with
    | none =>
     rw [hB] at hm
     dsimp only at hm
     subst hm hv hu
     have HB3 := Lib.hid hB
     clear hB
     go_upto_region 9 with fail
     generalize World.setCell (World.setCell w6 _ _) _ _ = w7 at F6 ⊢
     clear f0 f1 z0 z1
     go_wp2_with fail
     exact bodyPost_ret (v := .tuple #[.slice none 0 0, .bool false]) (by simp [results, Tryd.results53, go_sem]) rfl (NO.out _ _ (by unfold nextB takenB; rw [HO.out]; simp only [Option.bind_some]; rw [if_pos h0, HB3.out]; rfl) (F6.out.sub (fun p hp => List.mem_cons_of_mem _ (List.mem_cons_of_mem _ (List.mem_cons_of_mem _ hp)))))
    | some t =>
     rw [hB] at hm
     dsimp only at hm
     obtain ⟨rfl, sl, d, e1, e2, hd, hst⟩ := hm
     subst e1 e2
     have hch := (back_some hB).2.2.2.1
     have HB3 := Lib.hid hB
     obtain ⟨tl, tc⟩ := t
     unfold tkMay at hch
     dsimp only at hch hd hst F6 ⊢
     have HST := Lib.hid hst
     have hc16 : tc < 16 := by omega
     clear hB hv hu hst hch
     go_upto_region 9 with fail
     generalize World.setCell (World.setCell w6 _ _) _ _ = w7 at F6 ⊢
     clear f0 f1 z0 z1
     have q1 : w7.cell? ⟨tb, 1, none⟩ = some (.int .i64 (tc : Int)) := by rw [cell_of_row _ _ _ _ _ _ (F6.out.row (List.mem_cons_self ..))]; rfl
     go_wp2_with fail
     go_meet
     case rel => exact ⟨tl, tc + 1, sl, d, _, by unfold takenB; rw [if_pos h0, HB3.out]; rfl, by go_num, hd, HST.out, F6.out⟩
   ·obtain rfl : ref = 0 := by omega
    go_wp2_with fail
    go_meet
    case rel => exact ⟨[], 0, none, 0, _, by unfold takenB; rw [if_neg (Nat.lt_irrefl 0)], rfl, Nat.le_refl _, fun W' _ => LV.nil, F5.out⟩
  case rest =>
   obtain ⟨byL, ch, sl, d, u, htk, rfl, hd, hst, hF6⟩ := hcut
   rename World => w6
   have F6 := Lib.hid hF6
   have TS := Lib.hid (taken_some HT.out hdp htk)
   have HTK := Lib.hid htk
   have HST := Lib.hid hst
   have hch := TS.out.2.2
   dsimp only at hch
   obtain ⟨O2, hO2⟩ : ∃ O, dec (unpack (nats s)) T.length n deg byL ref b.p a1 = O := ⟨_, rfl⟩
   have HO2 := Lib.hid hO2
   obtain ⟨nt, hnt⟩ : ∃ z, T.length = z := ⟨_, rfl⟩
   have HNT := Lib.hid hnt
   obtain ⟨bn, hbn⟩ : ∃ z, byL.length = z := ⟨_, rfl⟩
   have HBN := Lib.hid hbn
   obtain ⟨K6, hK6⟩ : ∃ K, ((tb, Obj.cells #[.slice sl byL.length d, u] 113 (0, 0)) :: (hb3, .cells #[.int .i64 (deg : Int), .int .i64 (ref : Int)] 55 (0, 0)) :: (pb, .cells #[.int .i64 (b.p.win : Int), .int .i64 (b.depth : Int), .int .i64 (b.p.itv : Int), .int .i64 (b.p.zet : Int), .int .i64 (b.cap : Int)] 70 (0, 0)) :: (lb, .cells row 116 (0, 0)) :: (ls ++ ks)) = K := ⟨_, rfl⟩
   have HK6 := Lib.hid hK6
   rw [hK6] at F6
   rw [hbn] at hd hK6
   have CF6 : Hid (∀ W', FS w wr (some (rb, s, a1)) K6 W' → W'.cell? ⟨lb, 34, none⟩ = some (.int .i64 (nt : Int)) ∧ W'.cell? ⟨hb3, 0, none⟩ = some (.int .i64 (deg : Int)) ∧ W'.cell? ⟨hb3, 1, none⟩ = some (.int .i64 (ref : Int)) ∧ W'.cell? ⟨tb, 0, none⟩ = some (.slice sl bn d) ∧ W'.cell? ⟨pb, 0, none⟩ = some (.int .i64 (b.p.win : Int)) ∧ W'.cell? ⟨pb, 1, none⟩ = some (.int .i64 (b.depth : Int)) ∧ W'.cell? ⟨pb, 2, none⟩ = some (.int .i64 (b.p.itv : Int)) ∧ W'.cell? ⟨pb, 3, none⟩ = some (.int .i64 (b.p.zet : Int)) ∧ W'.cell? ⟨pb, 4, none⟩ = some (.int .i64 (b.cap : Int))) := Lib.hid (fun W' h' => by
    rw [← hK6] at h'
    have e0 := h'.row (List.mem_cons_self ..)
    have e1 := h'.row (List.mem_cons_of_mem _ (List.mem_cons_self ..))
    have e2 := h'.row (List.mem_cons_of_mem _ (List.mem_cons_of_mem _ (List.mem_cons_self ..)))
    have e3 := h'.row (List.mem_cons_of_mem _ (List.mem_cons_of_mem _ (List.mem_cons_of_mem _ (List.mem_cons_self ..))))
    exact ⟨by rw [cell_of_row _ _ _ _ _ _ e3, ← HNT.out]; exact HR.out.2.1, by rw [cell_of_row _ _ _ _ _ _ e1]; rfl, by rw [cell_of_row _ _ _ _ _ _ e1]; rfl, by rw [cell_of_row _ _ _ _ _ _ e0]; rfl, by rw [cell_of_row _ _ _ _ _ _ e2]; rfl, by rw [cell_of_row _ _ _ _ _ _ e2]; rfl, by rw [cell_of_row _ _ _ _ _ _ e2]; rfl, by rw [cell_of_row _ _ _ _ _ _ e2]; rfl, by rw [cell_of_row _ _ _ _ _ _ e2]; rfl⟩)
   have DE : Hid (∀ W', FS w wr (some (rb, s, a1)) K6 W' → Calls Tryd.prog 22 #[.pointer (some ⟨rb, 0, none⟩), .int .i64 (nt : Int), .int .i64 (n : Int), .agg #[.int .i64 (deg : Int), .int .i64 (ref : Int)], .slice sl bn d, .agg #[.int .i64 (b.p.win : Int), .int .i64 (b.p.itv : Int), .int .i64 (b.p.zet : Int)]] W' (DecF w wr pb rb s a1 K6 O2)) := Lib.hid (fun W' h' => by
    have hmem : ∀ p ∈ ls, p ∈ K6 := fun p hp => by
     rw [← HK6.out]
     exact List.mem_cons_of_mem _ (List.mem_cons_of_mem _ (List.mem_cons_of_mem _ (List.mem_cons_of_mem _ (List.mem_append_left _ hp))))
    have hA := HST.out W' (fun p hp => h'.row (b := p.1) (o := p.2) (hmem p hp))
    have hlt : pb ≤ W'.heap.size := by
     have hm : (pb, Obj.cells #[.int .i64 (b.p.win : Int), .int .i64 (b.depth : Int), .int .i64 (b.p.itv : Int), .int .i64 (b.p.zet : Int), .int .i64 (b.cap : Int)] 70 (0, 0)) ∈ K6 := by
      rw [← HK6.out]
      exact List.mem_cons_of_mem _ (List.mem_cons_of_mem _ (List.mem_cons_self ..))
     exact Nat.le_of_lt (lt_of_block (h'.row hm))
    have h2 := h'.decode5 hG T.length n deg ref b.p hx hn hdeg href hb sl byL d (by rw [HBN.out]; exact hd) TS.out.1 TS.out.2.1 hA (fun g o e h0 => .inr (by
     obtain ⟨o', ho'⟩ := HST.out.mem (fun p hp => h'.row (b := p.1) (o := p.2) (hmem p hp)) h0 e
     exact ⟨o', hmem _ ho'⟩))
    rw [HO2.out, HBN.out] at h2
    rw [HNT.out] at h2
    refine h2.mono ?_
    rintro e w8 ⟨v, ec, rfl, h9⟩
    exact ⟨v, ec, rfl, h9.mono hlt⟩)
   have CF8 : Hid (∀ v ec W', DecG w wr pb rb s a1 K6 O2 v ec W' → W'.cell? ⟨lb, 34, none⟩ = some (.int .i64 (nt : Int)) ∧ W'.cell? ⟨hb3, 0, none⟩ = some (.int .i64 (deg : Int)) ∧ W'.cell? ⟨hb3, 1, none⟩ = some (.int .i64 (ref : Int)) ∧ W'.cell? ⟨tb, 0, none⟩ = some (.slice sl bn d) ∧ W'.cell? ⟨pb, 0, none⟩ = some (.int .i64 (b.p.win : Int)) ∧ W'.cell? ⟨pb, 1, none⟩ = some (.int .i64 (b.depth : Int)) ∧ W'.cell? ⟨pb, 2, none⟩ = some (.int .i64 (b.p.itv : Int)) ∧ W'.cell? ⟨pb, 3, none⟩ = some (.int .i64 (b.p.zet : Int)) ∧ W'.cell? ⟨pb, 4, none⟩ = some (.int .i64 (b.cap : Int))) := Lib.hid (fun v ec W' h' => by
    have hk : ∀ p ∈ K6, W'.heap[p.1]? = some p.2 := by
     unfold DecG at h'
     cases O2 with
     | none => exact fun p hp => h'.2.2.row (b := p.1) (o := p.2) hp
     | some q =>
      obtain ⟨_, kv, _, _, _, h9⟩ := h'
      exact fun p hp => h9.row (b := p.1) (o := p.2) (List.mem_append_right _ hp)
    rw [← hK6] at hk
    have e0 := hk _ (List.mem_cons_self ..)
    have e1 := hk _ (List.mem_cons_of_mem _ (List.mem_cons_self ..))
    have e2 := hk _ (List.mem_cons_of_mem _ (List.mem_cons_of_mem _ (List.mem_cons_self ..)))
    have e3 := hk _ (List.mem_cons_of_mem _ (List.mem_cons_of_mem _ (List.mem_cons_of_mem _ (List.mem_cons_self ..))))
    exact ⟨by rw [cell_of_row _ _ _ _ _ _ e3, ← HNT.out]; exact HR.out.2.1, by rw [cell_of_row _ _ _ _ _ _ e1]; rfl, by rw [cell_of_row _ _ _ _ _ _ e1]; rfl, by rw [cell_of_row _ _ _ _ _ _ e0]; rfl, by rw [cell_of_row _ _ _ _ _ _ e2]; rfl, by rw [cell_of_row _ _ _ _ _ _ e2]; rfl, by rw [cell_of_row _ _ _ _ _ _ e2]; rfl, by rw [cell_of_row _ _ _ _ _ _ e2]; rfl, by rw [cell_of_row _ _ _ _ _ _ e2]; rfl⟩)
   rw [hnt] at hx
   clear htk hst hF6 hO2 hnt hbn hK6 F5 c1
   obtain ⟨c0, c1, c2, c3, p0, p1, p2, p3, p4⟩ := CF6.out _ F6.out
   go_upto_region 12 with fail
   go_region_held3 (fun W' => W'.cell? ⟨lb, 34, none⟩ = some (.int .i64 (nt : Int)) ∧ W'.cell? ⟨hb3, 0, none⟩ = some (.int .i64 (deg : Int)) ∧ W'.cell? ⟨hb3, 1, none⟩ = some (.int .i64 (ref : Int)) ∧ W'.cell? ⟨tb, 0, none⟩ = some (.slice sl bn d) ∧ W'.cell? ⟨pb, 0, none⟩ = some (.int .i64 (b.p.win : Int)) ∧ W'.cell? ⟨pb, 1, none⟩ = some (.int .i64 (b.depth : Int)) ∧ W'.cell? ⟨pb, 2, none⟩ = some (.int .i64 (b.p.itv : Int)) ∧ W'.cell? ⟨pb, 3, none⟩ = some (.int .i64 (b.p.zet : Int)) ∧ W'.cell? ⟨pb, 4, none⟩ = some (.int .i64 (b.cap : Int)))
    (first | exact CF6.out _ F6.out | exact CF6.out _ F6.out.drew | exact CF8.out _ _ _ h8 | exact CF6.out _ h7 | exact CF6.out _ h7.drew)
    (first
     | (go_at_call 78; (with_reducible refine (BL.out _).mono ?_); rintro e w7 ⟨rfl, k7⟩; have h7 := (by first | exact F6.out.next k7 | exact F6.out.drew.next k7 : FS w wr (some (rb, s, a1)) K6 w7))
     | (go_at_call 22; (with_reducible refine (DE.out _ (by first | exact h7 | exact h7.drew)).mono ?_); rintro e w8 ⟨v8, ec, rfl, h8⟩))
   have H8 := Lib.hid h8
   have F6A := Lib.hid F6.out
   clear h8 h7 k7 c0 c1 c2 c3 p0 p1 p2 p3 p4 CF8 CF6 DE F6
   cases O2 with
   | none =>
    obtain ⟨rfl, rfl, h9⟩ := H8.out
    have H9 := Lib.hid h9
    clear h9 H8
    go_wp2_with fail
    exact bodyPost_ret (v := .tuple #[.slice none 0 0, .bool false]) (by simp [results, Tryd.results53, go_sem]) rfl (NO.out _ _ (by unfold nextB; rw [HO.out, Option.bind_some]; dsimp only; rw [HTK.out, Option.bind_some]; dsimp only; rw [HO2.out]; rfl) (H9.out.sub (fun p hp => by rw [← HK6.out]; exact List.mem_cons_of_mem _ (List.mem_cons_of_mem _ (List.mem_cons_of_mem _ hp)))))
   | some q2 =>
    obtain ⟨l2, a2⟩ := q2
    obtain ⟨rfl, kv, own8, hkv1, hkv2, h9⟩ := H8.out
    dsimp only at own8 h9
    have hra : a1 ≤ (unpack (nats s)).length := by
     rw [bits_len]
     obtain ⟨x, _, _, hr, _⟩ := F6A.out
     exact (hr _ rfl).2.2.1
    obtain ⟨d1, d2, d3, d4⟩ := dec_some hb hra HO2.out
    dsimp only at d1 d2 d3 d4
    have hl65 : l2.length ≤ 65536 := by omega
    obtain ⟨s8, d8, rfl, hd8, hst8⟩ := own_in own8 hkv1 (fun p hp => h9.row (b := p.1) (o := p.2) (List.mem_append_left _ hp)) hl65 (fun x hx' => by have := d3 x hx'; omega)
    have H9 := Lib.hid h9
    have OWN := Lib.hid own8
    have HD3 := Lib.hid (And.intro hkv1 (And.intro hkv2 hst8))
    have hlb6 : (lb, Obj.cells row 116 (0, 0)) ∈ K6 := by
     rw [← HK6.out]
     exact List.mem_cons_of_mem _ (List.mem_cons_of_mem _ (List.mem_cons_of_mem _ (List.mem_cons_self ..)))
    have PU := Lib.hid (rput_any w8 lb 0 row 116 (h9.row (List.mem_append_right _ hlb6)) T ls HR.out (by rw [HNT.out]; omega) s8 l2.length d8 (ch : Int))
    obtain ⟨m, hm⟩ : ∃ z, l2.length = z := ⟨_, rfl⟩
    have HM := Lib.hid hm
    rw [hm] at PU hd8 ⊢
    clear own8 hkv1 hkv2 hst8 h9 H8 d1 d2 d3 d4 hm hl65 hlb6
    go_wp2_with fail
    with_reducible refine PU.out.mono ?_
    rintro e w9 ⟨rfl, kp, hsz, hrow9⟩
    have FIN : Hid (NextP w wr pb T rb s lb ls ks (nextB b T n (unpack (nats s)) a) (.returned (.tuple #[.slice s8 m d8, .bool true])) w9) := Lib.hid (by
     have e1 : nextB b T n (unpack (nats s)) a = some ((l2, ch), a2) := by unfold nextB; rw [HO.out, Option.bind_some]; dsimp only; rw [HTK.out, Option.bind_some]; dsimp only; rw [HO2.out]; rfl
     rw [e1]
     obtain ⟨hkv1, hkv2, hst8⟩ := HD3.out
     have g1 : FS w wr (some (rb, s, a2)) ((lb, .cells row 116 (0, 0)) :: (kv ++ ls ++ ks)) w8 := H9.out.sub (fun p hp => by
      rw [← HK6.out]
      simp only [List.mem_cons, List.mem_append] at hp ⊢
      rcases hp with hp | (hp | hp) | hp
      ·exact .inr (.inr (.inr (.inr (.inl hp))))
      ·exact .inl hp
      ·exact .inr (.inr (.inr (.inr (.inr (.inl hp)))))
      ·exact .inr (.inr (.inr (.inr (.inr (.inr hp))))))
     have g2 : ∀ p ∈ kv ++ ls ++ ks, p.1 ≠ lb := fun p hp => by
      simp only [List.mem_append] at hp
      rcases hp with (hp | hp) | hp
      ·have := hkv2 p hp; omega
      ·exact HNE.out p (List.mem_append_left _ hp)
      ·exact HNE.out p (List.mem_append_right _ hp)
     have g3 := g1.turn kp hrow9 g2
     refine ⟨.slice s8 m d8, kv, rfl, ?_, hkv2, ⟨_, g3, g2, by rw [putRow_size]; exact HZ.out, ?_⟩⟩
     ·dsimp only
      have o8 := OWN.out
      rw [HM.out] at o8 ⊢
      refine own_same2 o8 (fun g hg => ?_)
      obtain ⟨o, ho⟩ := hkv1 g (by rw [HM.out]; exact hg)
      rw [g3.row (b := g) (o := o) (List.mem_cons_of_mem _ (List.mem_append_left _ (List.mem_append_left _ ho))), g1.row (b := g) (o := o) (List.mem_cons_of_mem _ (List.mem_append_left _ (List.mem_append_left _ ho)))]
     ·have h5 := (HR.out.more (ls' := kv ++ ls) (fun p hp => List.mem_append_right _ hp)).put (l2, ch) s8 d8 (by dsimp only; rw [HM.out]; exact hd8) (hst8.more (fun p hp => List.mem_append_left _ hp))
      dsimp only at h5
      rw [HM.out] at h5
      exact h5)
    clear kp hsz hrow9 PU
    go_wp2_with fail
    exact bodyPost_ret (v := .tuple #[.slice s8 m d8, .bool true]) (by simp [results, Tryd.results53, go_sem]) rfl FIN.out
end Go.Proofs.YtflnpcgnenhogaaDoor.ls
namespace Go.Proofs.YtflnpcgnenhogaaDoor.ls
open Go.RowKit Go.Proofs.YtflnpcgnenhogaaDoor.own Go.Proofs.YtflnpcgnenhogaaDoor.bit

/-- what a reading stands on: the reader, the ring, the graph's row, the row of places, rows beside -/
structure DR (w : World) (wr : Option (Nat × Bits)) (T : List Tk) (rb : Nat) (s : ByteArray) (a lb : Nat) (ls gs kg ka ks : List (Nat × Obj)) (vg : Value) (V : List Value) (G : List (List Nat)) (va : Value) (A : List Nat) (N : Nat) (W : World) : Prop where
 nx : NX w wr T rb s a lb ls (kg ++ (ka ++ (gs ++ ks))) W
 hkg : KA kg vg
 hka : KA ka va
 og : W.ownsRow 0 29 1 vg V.length V
 oa : W.ownsRow 0 76 1 va A.length (u64V A)
 rows : GRow gs V G
 offg : Off (ka ++ (gs ++ (ls ++ ks))) vg
 offa : Off (kg ++ (gs ++ (ls ++ ks))) va
 new : ∀ p ∈ kg ++ (ka ++ gs), N ≤ p.1
section
variable {w W W' W2 : World} {wr : Option (Nat × Bits)} {T T' : List Tk} {rb : Nat} {s : ByteArray} {a a' lb : Nat} {ls gs kg ka ks kv : List (Nat × Obj)} {vg : Value} {V : List Value} {G : List (List Nat)} {va : Value} {A : List Nat} {N : Nat}
theorem NX.has (h : NX w wr T rb s a lb ls ks W) {p : Nat × Obj} (hp : p ∈ ls ++ ks) : W.heap[p.1]? = some p.2 := by
 obtain ⟨row, h1, _⟩ := h
 exact h1.row (b := p.1) (o := p.2) (List.mem_cons_of_mem _ hp)
theorem NX.lb_lt (h : NX w wr T rb s a lb ls ks W) : lb < W.heap.size := by
 obtain ⟨row, h1, _⟩ := h
 exact lt_of_block (h1.row (List.mem_cons_self ..))
theorem NX.next (h : NX w wr T rb s a lb ls ks W) (k : Below W.heap.size W W') : NX w wr T rb s a lb ls ks W' := by
 obtain ⟨row, h1, h2⟩ := h
 exact ⟨row, h1.next k, h2⟩
theorem NX.fs (h : NX w wr T rb s a lb ls ks W) : FS w wr (some (rb, s, a)) ks W := by
 obtain ⟨row, h1, h2⟩ := h
 exact h1.sub (fun p hp => List.mem_cons_of_mem _ (List.mem_append_right _ hp))
/-- the rows beside are laid anew: the ring and its lists stay -/
theorem NX.turn {K K2 : List (Nat × Obj)} (h : NX w wr T rb s a lb ls K W) (hf : ∀ row, FS w wr (some (rb, s, a)) ((lb, .cells row 116 (0, 0)) :: (ls ++ K)) W → FS w wr (some (rb, s, a)) ((lb, .cells row 116 (0, 0)) :: (ls ++ K2)) W') (hne : ∀ p ∈ K2, p.1 ≠ lb) : NX w wr T rb s a lb ls K2 W' := by
 obtain ⟨row, h1, h2, h3⟩ := h
 refine ⟨row, hf row h1, fun p hp => ?_, h3⟩
 rcases List.mem_append.1 hp with hp | hp
 ·exact h2 p (List.mem_append_left _ hp)
 ·exact hne p hp
theorem NX.ne (h : NX w wr T rb s a lb ls ks W) : ∀ p ∈ ls ++ ks, p.1 ≠ lb := by
 obtain ⟨row, h1, h2, h3⟩ := h
 exact h2
theorem DR.next (h : DR w wr T rb s a lb ls gs kg ka ks vg V G va A N W) (k : Below W.heap.size W W') : DR w wr T rb s a lb ls gs kg ka ks vg V G va A N W' :=
 ⟨h.nx.next k, h.hkg, h.hka, h.hkg.has h.nx.fs (h.nx.fs.next k) (fun _ hp => ⟨List.mem_append_left _ hp, List.mem_append_left _ hp⟩) h.og, h.hka.has h.nx.fs (h.nx.fs.next k) (fun _ hp => ⟨List.mem_append_right _ (List.mem_append_left _ hp), List.mem_append_right _ (List.mem_append_left _ hp)⟩) h.oa, h.rows, h.offg, h.offa, h.new⟩
theorem DR.lt (h : DR w wr T rb s a lb ls gs kg ka ks vg V G va A N W) : ∀ p ∈ kg ++ (ka ++ (gs ++ ks)), p.1 < W.heap.size := fun _ hp => lt_of_block (h.nx.has (List.mem_append_right _ hp))
/-- a list was read -/
theorem DR.read (h : DR w wr T rb s a lb ls gs kg ka ks vg V G va A N W) (h2 : NX w wr T' rb s a' lb (kv ++ ls) (kg ++ (ka ++ (gs ++ ks))) W') (hn : ∀ p ∈ kv, W.heap.size ≤ p.1) : DR w wr T' rb s a' lb (kv ++ ls) gs kg ka ks vg V G va A N W' := by
 have hlt := h.lt
 have fresh : ∀ {k : List (Nat × Obj)} {v : Value}, KA k v → (∀ p ∈ k, p.1 < W.heap.size) → Off kv v := fun hk hl p hp e => by
  obtain ⟨o, ho⟩ := hk.1 p.1 e.symm
  have := hl _ ho
  have := hn p hp
  dsimp only at *
  omega
 have f1 := fresh h.hkg (fun p hp => hlt p (List.mem_append_left _ hp))
 have f2 := fresh h.hka (fun p hp => hlt p (List.mem_append_right _ (List.mem_append_left _ hp)))
 have big : ∀ {x : List (Nat × Obj)} {v : Value}, Off (x ++ (gs ++ (ls ++ ks))) v → Off kv v → Off (x ++ (gs ++ (kv ++ ls ++ ks))) v := fun ho hv p hp => by
  simp only [List.mem_append] at hp
  rcases hp with hp | hp | (hp | hp) | hp
  ·exact ho p (by simp only [List.mem_append]; exact .inl hp)
  ·exact ho p (by simp only [List.mem_append]; exact .inr (.inl hp))
  ·exact hv p hp
  ·exact ho p (by simp only [List.mem_append]; exact .inr (.inr (.inl hp)))
  ·exact ho p (by simp only [List.mem_append]; exact .inr (.inr (.inr hp)))
 exact ⟨h2, h.hkg, h.hka, h.hkg.has h.nx.fs h2.fs (fun p hp => ⟨List.mem_append_left _ hp, List.mem_append_left _ hp⟩) h.og, h.hka.has h.nx.fs h2.fs (fun p hp => ⟨List.mem_append_right _ (List.mem_append_left _ hp), List.mem_append_right _ (List.mem_append_left _ hp)⟩) h.oa, h.rows, big h.offg f1, big h.offa f2, h.new⟩
/-- a list is copied into a row of its own -/
theorem DR.copy {v2 : Value} {l : List Nat} (h : DR w wr T rb s a lb ls gs kg ka ks vg V G va A N W) (hN : N ≤ W.heap.size) (own : W2.ownsRow W.heap.size 60 1 v2 l.length (u32V l)) (k : Below W.heap.size W W2) (hl : l.length ≤ 65536) (hb : ∀ x ∈ l, x < 4294967296) :
  ∃ kl sl d, v2 = .slice sl l.length d ∧ l.length ≤ d ∧ Stands kl sl l ∧ DR w wr T rb s a lb ls (kl ++ gs) kg ka ks vg V G va A N W2 := by
 obtain ⟨kl, sl, d, hv, hd, hst, hk⟩ := own_stands own hl hb
 have hlt := h.lt
 have h2 := h.next k
 have fresh : ∀ {k : List (Nat × Obj)} {v : Value}, KA k v → (∀ p ∈ k, p.1 < W.heap.size) → Off kl v := fun hk' hl p hp e => by
  obtain ⟨o, ho⟩ := hk'.1 p.1 e.symm
  have := hl _ ho
  have := (hk p hp).1
  dsimp only at *
  omega
 have f1 := fresh h.hkg (fun p hp => hlt p (List.mem_append_left _ hp))
 have f2 := fresh h.hka (fun p hp => hlt p (List.mem_append_right _ (List.mem_append_left _ hp)))
 have big : ∀ {x : List (Nat × Obj)} {v : Value}, Off (x ++ (gs ++ (ls ++ ks))) v → Off kl v → Off (x ++ (kl ++ gs ++ (ls ++ ks))) v := fun ho hv p hp => by
  simp only [List.mem_append] at hp
  rcases hp with hp | (hp | hp) | hp | hp
  ·exact ho p (by simp only [List.mem_append]; exact .inl hp)
  ·exact hv p hp
  ·exact ho p (by simp only [List.mem_append]; exact .inr (.inl hp))
  ·exact ho p (by simp only [List.mem_append]; exact .inr (.inr (.inl hp)))
  ·exact ho p (by simp only [List.mem_append]; exact .inr (.inr (.inr hp)))
 have hlb := h.nx.lb_lt
 refine ⟨kl, sl, d, hv, hd, hst, ⟨h.nx.turn (fun row f => (f.more (js := kl) k hk).sub (fun p hp => ?_)) (fun p hp => ?_), h2.hkg, h2.hka, h2.og, h2.oa, h2.rows.more (fun p hp => List.mem_append_right _ hp), big h.offg f1, big h.offa f2, fun p hp => ?_⟩⟩
 ·simp only [List.mem_cons, List.mem_append] at hp ⊢
  rcases hp with hp | hp | hp | hp | (hp | hp) | hp
  ·exact .inr (.inl hp)
  ·exact .inr (.inr (.inl hp))
  ·exact .inr (.inr (.inr (.inl hp)))
  ·exact .inr (.inr (.inr (.inr (.inl hp))))
  ·exact .inl hp
  ·exact .inr (.inr (.inr (.inr (.inr (.inl hp)))))
  ·exact .inr (.inr (.inr (.inr (.inr (.inr hp)))))
 ·simp only [List.mem_append] at hp
  rcases hp with hp | hp | (hp | hp) | hp
  ·exact h.nx.ne p (by simp only [List.mem_append]; exact .inr (.inl hp))
  ·exact h.nx.ne p (by simp only [List.mem_append]; exact .inr (.inr (.inl hp)))
  ·have := (hk p hp).1
   omega
  ·exact h.nx.ne p (by simp only [List.mem_append]; exact .inr (.inr (.inr (.inl hp))))
  ·exact h.nx.ne p (by simp only [List.mem_append]; exact .inr (.inr (.inr (.inr hp))))
 ·simp only [List.mem_append] at hp
  rcases hp with hp | hp | hp | hp
  ·exact h.new p (by simp only [List.mem_append]; exact .inl hp)
  ·exact h.new p (by simp only [List.mem_append]; exact .inr (.inl hp))
  ·have := (hk p hp).1
   omega
  ·exact h.new p (by simp only [List.mem_append]; exact .inr (.inr hp))
/-- a list is put at the graph's end -/
theorem DR.pushG {v' : Value} {l : List Nat} {sl : Option Addr} {d : Nat} (h : DR w wr T rb s a lb ls gs kg ka ks vg V G va A N W) (hN : N ≤ W.heap.size) (hd : l.length ≤ d) (hst : Stands gs sl l) (own : W2.ownsRow 0 29 1 v' (V.length + 1) (V ++ [.slice sl l.length d])) (hg : W.grownBy W2 vg.ownBlock)
  (hw : v'.ownBlock = vg.ownBlock ∨ v'.ownBlock = some W.heap.size) : ∃ kg', DR w wr T rb s a lb ls gs kg' ka ks v' (V ++ [.slice sl l.length d]) (G ++ [l]) va A N W2 := by
 have hlb := h.nx.lb_lt
 obtain ⟨row, h1, h2, h3⟩ := h.nx
 have kbr : some lb ≠ vg.ownBlock := fun e => by
  obtain ⟨o', ho'⟩ := h.hkg.1 lb e.symm
  exact h2 _ (List.mem_append_right _ (List.mem_append_left _ ho')) rfl
 obtain ⟨k2, a1, a2, a3, a4⟩ := (h1.sub (ks' := kg ++ ((lb, .cells row 116 (0, 0)) :: (ls ++ (ka ++ (gs ++ ks))))) (fun p hp => by
  simp only [List.mem_cons, List.mem_append] at hp ⊢
  rcases hp with hp | hp | hp | hp | hp | hp
  ·exact .inr (.inr (.inl hp))
  ·exact .inl hp
  ·exact .inr (.inl hp)
  ·exact .inr (.inr (.inr (.inl hp)))
  ·exact .inr (.inr (.inr (.inr (.inl hp))))
  ·exact .inr (.inr (.inr (.inr (.inr hp)))))).push h.hkg (fun p hp => by
  simp only [List.mem_cons, List.mem_append] at hp
  rcases hp with rfl | hp | hp | hp | hp
  ·exact kbr
  ·exact h.offg p (by simp only [List.mem_append]; exact .inr (.inr (.inl hp)))
  ·exact h.offg p (by simp only [List.mem_append]; exact .inl hp)
  ·exact h.offg p (by simp only [List.mem_append]; exact .inr (.inl hp))
  ·exact h.offg p (by simp only [List.mem_append]; exact .inr (.inr (.inr hp)))) hg own hw
 have f2 : FS w wr (some (rb, s, a)) ((lb, .cells row 116 (0, 0)) :: (ls ++ (k2 ++ (ka ++ (gs ++ ks))))) W2 := a3.sub (fun p hp => by
  simp only [List.mem_cons, List.mem_append] at hp ⊢
  rcases hp with hp | hp | hp | hp | hp | hp
  ·exact .inr (.inl hp)
  ·exact .inr (.inr (.inl hp))
  ·exact .inl hp
  ·exact .inr (.inr (.inr (.inl hp)))
  ·exact .inr (.inr (.inr (.inr (.inl hp))))
  ·exact .inr (.inr (.inr (.inr (.inr hp)))))
 have nk : ∀ p ∈ k2, p.1 ≠ lb ∧ N ≤ p.1 ∧ some p.1 ≠ va.ownBlock := fun p hp => by
  rcases a4 p hp with ⟨o, ho⟩ | hge
  ·refine ⟨h2 (p.1, o) (List.mem_append_right _ (List.mem_append_left _ ho)), h.new (p.1, o) (List.mem_append_left _ ho), h.offa (p.1, o) (List.mem_append_left _ ho)⟩
  ·refine ⟨by omega, by omega, fun e => ?_⟩
   obtain ⟨o, ho⟩ := h.hka.1 p.1 e.symm
   have := h.lt _ (List.mem_append_right _ (List.mem_append_left _ ho))
   dsimp only at this
   omega
 have fs2 : FS w wr (some (rb, s, a)) (k2 ++ (ka ++ (gs ++ ks))) W2 := f2.sub (fun p hp => List.mem_cons_of_mem _ (List.mem_append_right _ hp))
 refine ⟨k2, ⟨⟨row, f2, fun p hp => ?_, h3⟩, a1, h.hka, by rw [List.length_append]; exact own, h.hka.has h.nx.fs fs2 (fun p hp => ⟨List.mem_append_right _ (List.mem_append_left _ hp), List.mem_append_right _ (List.mem_append_left _ hp)⟩) h.oa, h.rows.snoc l sl d hd hst, fun p hp => ?_, fun p hp => ?_, fun p hp => ?_⟩⟩
 ·simp only [List.mem_append] at hp
  rcases hp with hp | hp | hp
  ·exact h2 p (List.mem_append_left _ hp)
  ·exact (nk p hp).1
  ·exact h2 p (List.mem_append_right _ (List.mem_append_right _ (by simpa using hp)))
 ·simp only [List.mem_append] at hp
  rcases hp with hp | hp | hp | hp
  ·exact a2 p (by simp only [List.mem_cons, List.mem_append]; exact .inr (.inr (.inl hp)))
  ·exact a2 p (by simp only [List.mem_cons, List.mem_append]; exact .inr (.inr (.inr (.inl hp))))
  ·exact a2 p (by simp only [List.mem_cons, List.mem_append]; exact .inr (.inl hp))
  ·exact a2 p (by simp only [List.mem_cons, List.mem_append]; exact .inr (.inr (.inr (.inr hp))))
 ·rcases List.mem_append.1 hp with hp | hp
  ·exact (nk p hp).2.2
  ·exact h.offa p (List.mem_append_right _ hp)
 ·rcases List.mem_append.1 hp with hp | hp
  ·exact (nk p hp).2.1
  ·exact h.new p (List.mem_append_right _ hp)
/-- a place is put at the row's end -/
theorem DR.pushA {v' : Value} {z : Nat} (h : DR w wr T rb s a lb ls gs kg ka ks vg V G va A N W) (hN : N ≤ W.heap.size) (own : W2.ownsRow 0 76 1 v' (A.length + 1) (u64V A ++ [.int .u64 (z : Int)])) (hg : W.grownBy W2 va.ownBlock)
  (hw : v'.ownBlock = va.ownBlock ∨ v'.ownBlock = some W.heap.size) : ∃ ka', DR w wr T rb s a lb ls gs kg ka' ks vg V G v' (A ++ [z]) N W2 := by
 have hlb := h.nx.lb_lt
 obtain ⟨row, h1, h2, h3⟩ := h.nx
 have kbr : some lb ≠ va.ownBlock := fun e => by
  obtain ⟨o', ho'⟩ := h.hka.1 lb e.symm
  exact h2 _ (List.mem_append_right _ (List.mem_append_right _ (List.mem_append_left _ ho'))) rfl
 obtain ⟨k2, a1, a2, a3, a4⟩ := (h1.sub (ks' := ka ++ ((lb, .cells row 116 (0, 0)) :: (ls ++ (kg ++ (gs ++ ks))))) (fun p hp => by
  simp only [List.mem_cons, List.mem_append] at hp ⊢
  rcases hp with hp | hp | hp | hp | hp | hp
  ·exact .inr (.inr (.inr (.inl hp)))
  ·exact .inl hp
  ·exact .inr (.inl hp)
  ·exact .inr (.inr (.inl hp))
  ·exact .inr (.inr (.inr (.inr (.inl hp))))
  ·exact .inr (.inr (.inr (.inr (.inr hp)))))).push h.hka (fun p hp => by
  simp only [List.mem_cons, List.mem_append] at hp
  rcases hp with rfl | hp | hp | hp | hp
  ·exact kbr
  ·exact h.offa p (by simp only [List.mem_append]; exact .inr (.inr (.inl hp)))
  ·exact h.offa p (by simp only [List.mem_append]; exact .inl hp)
  ·exact h.offa p (by simp only [List.mem_append]; exact .inr (.inl hp))
  ·exact h.offa p (by simp only [List.mem_append]; exact .inr (.inr (.inr hp)))) hg own hw
 have f2 : FS w wr (some (rb, s, a)) ((lb, .cells row 116 (0, 0)) :: (ls ++ (kg ++ (k2 ++ (gs ++ ks))))) W2 := a3.sub (fun p hp => by
  simp only [List.mem_cons, List.mem_append] at hp ⊢
  rcases hp with hp | hp | hp | hp | hp | hp
  ·exact .inr (.inl hp)
  ·exact .inr (.inr (.inl hp))
  ·exact .inr (.inr (.inr (.inl hp)))
  ·exact .inl hp
  ·exact .inr (.inr (.inr (.inr (.inl hp))))
  ·exact .inr (.inr (.inr (.inr (.inr hp)))))
 have nk : ∀ p ∈ k2, p.1 ≠ lb ∧ N ≤ p.1 ∧ some p.1 ≠ vg.ownBlock := fun p hp => by
  rcases a4 p hp with ⟨o, ho⟩ | hge
  ·refine ⟨h2 (p.1, o) (List.mem_append_right _ (List.mem_append_right _ (List.mem_append_left _ ho))), h.new (p.1, o) (List.mem_append_right _ (List.mem_append_left _ ho)), h.offg (p.1, o) (List.mem_append_left _ ho)⟩
  ·refine ⟨by omega, by omega, fun e => ?_⟩
   obtain ⟨o, ho⟩ := h.hkg.1 p.1 e.symm
   have := h.lt _ (List.mem_append_left _ ho)
   dsimp only at this
   omega
 have fs2 : FS w wr (some (rb, s, a)) (kg ++ (k2 ++ (gs ++ ks))) W2 := f2.sub (fun p hp => List.mem_cons_of_mem _ (List.mem_append_right _ hp))
 refine ⟨k2, ⟨⟨row, f2, fun p hp => ?_, h3⟩, h.hkg, a1, h.hkg.has h.nx.fs fs2 (fun p hp => ⟨List.mem_append_left _ hp, List.mem_append_left _ hp⟩) h.og, by rw [u64V_append, List.length_append]; exact own, h.rows, fun p hp => ?_, fun p hp => ?_, fun p hp => ?_⟩⟩
 ·simp only [List.mem_append] at hp
  rcases hp with hp | hp | hp | hp
  ·exact h2 p (List.mem_append_left _ hp)
  ·exact h2 p (by simp only [List.mem_append]; exact .inr (.inl hp))
  ·exact (nk p hp).1
  ·exact h2 p (by simp only [List.mem_append]; exact .inr (.inr (.inr hp)))
 ·rcases List.mem_append.1 hp with hp | hp
  ·exact (nk p hp).2.2
  ·exact h.offg p (List.mem_append_right _ hp)
 ·simp only [List.mem_append] at hp
  rcases hp with hp | hp | hp | hp
  ·exact a2 p (by simp only [List.mem_cons, List.mem_append]; exact .inr (.inr (.inl hp)))
  ·exact a2 p (by simp only [List.mem_cons, List.mem_append]; exact .inr (.inr (.inr (.inl hp))))
  ·exact a2 p (by simp only [List.mem_cons, List.mem_append]; exact .inr (.inl hp))
  ·exact a2 p (by simp only [List.mem_cons, List.mem_append]; exact .inr (.inr (.inr (.inr hp))))
 ·simp only [List.mem_append] at hp
  rcases hp with hp | hp | hp
  ·exact h.new p (List.mem_append_left _ hp)
  ·exact (nk p hp).2.1
  ·exact h.new p (List.mem_append_right _ (List.mem_append_right _ hp))
end
theorem FS.seek {w W : World} {wr : Option (Nat × Bits)} {rb a : Nat} {s : ByteArray} {ks : List (Nat × Obj)} (h : FS w wr (some (rb, s, a)) ks W) (z : Nat) (hz : z ≤ 8 * s.size) :
  Calls Tryd.prog 40 #[.pointer (some ⟨rb, 0, none⟩), .int .i64 (z : Int)] W fun e w' => e = .returned (.int .i64 0) ∧ FS w wr (some (rb, s, z)) ks w' := by
 obtain ⟨x, hf, hw, hr, hk⟩ := h
 refine (Seek_any x 5 s a z rb W (hr _ rfl) hz).mono ?_
 rintro e w' ⟨rfl, f2, hr2⟩
 exact ⟨rfl, x, hf.trans (f2.mono (fun c hc => by show c < 50; omega)), fun q e => (hw q e).frame f2 (by decide), fun q e => by cases e; exact hr2, rows_frame hk f2 (by decide)⟩
end Go.Proofs.YtflnpcgnenhogaaDoor.ls
namespace Go.Proofs.YtflnpcgnenhogaaDoor.ls
open Go.RowKit Go.Proofs.YtflnpcgnenhogaaDoor.own Go.Proofs.YtflnpcgnenhogaaDoor.bit

/-- lists, numbers that stand in blocks of these -/
def StG (K : List (Nat × Obj)) (a : Option Addr) (G : List (List Nat)) : Prop := ∀ W : World, (∀ p ∈ K, W.heap[p.1]? = some p.2) → LLs W a G
def StU (K : List (Nat × Obj)) (a : Option Addr) (l : List Nat) : Prop := ∀ W : World, (∀ p ∈ K, W.heap[p.1]? = some p.2) → UV W a l
/-- what Decode answers -/
def BdP (w : World) (wr : Option (Nat × Bits)) (N rb : Nat) (s : ByteArray) (a : Nat) (ks : List (Nat × Obj)) (P : List Nat) (O : Option (List Tk × Nat)) (e : Ending) (w' : World) : Prop :=
 match O with
 | some q => ∃ vg va kx sg dg sa da, e = .returned (.tuple #[vg, va, .int .i64 0]) ∧ FS w wr (some (rb, s, q.2)) (kx ++ ks) w' ∧ (∀ p ∈ kx, N ≤ p.1) ∧ vg = .slice sg q.1.length dg ∧ q.1.length ≤ dg ∧ StG kx sg (q.1.map (·.1)) ∧ va = .slice sa P.length da ∧ P.length ≤ da ∧ StU kx sa P
 | none => e = .returned (.tuple #[.slice none 0 0, .slice none 0 0, .int .i64 4]) ∧ FS w wr (some (rb, s, a)) ks w'
theorem own_stG {W : World} {v : Value} {V : List Value} {G : List (List Nat)} {kg gs : List (Nat × Obj)} (own : W.ownsRow 0 29 1 v V.length V) (hk : ∀ g, v.ownBlock = some g → ∃ o, (g, o) ∈ kg) (hW : ∀ p ∈ kg, W.heap[p.1]? = some p.2) (h : GRow gs V G) (hz : G.length ≤ 4611686018427387903) :
  ∃ sg d, v = .slice sg G.length d ∧ G.length ≤ d ∧ StG (kg ++ gs) sg G := by
 have hl := h.1
 rcases own.2 with ⟨rfl, h0⟩ | ⟨g, cap, cur, rfl, hbg, hg, hn, _, _, htake⟩
 ·have : G.length = 0 := by omega
  exact ⟨none, 0, by rw [this], by omega, fun W' _ => ⟨hz, fun i hi => by omega⟩⟩
 ·obtain ⟨o, ho⟩ := hk g rfl
  refine ⟨_, cap, by rw [hl], by omega, fun W' hW' => ⟨hz, fun i hi => ?_⟩⟩
  obtain ⟨s, d, e1, e2, e3⟩ := h.2 i hi
  have hr := hW' _ (List.mem_append_left _ ho)
  have hr0 := hW _ ho
  dsimp only at hr hr0
  rw [hg] at hr0
  injection hr0 with hr0
  rw [← hr0] at hr
  refine ⟨g, 0, s, d, rfl, lt_of_block hr, ?_, e2, e3 W' (fun p hp => hW' p (List.mem_append_right _ hp))⟩
  rw [← htake, List.getElem?_take_of_lt (by omega)] at e1
  rw [Nat.zero_add, cell_of_row _ _ _ _ _ _ hr, ← Array.getElem?_toList]
  exact e1
theorem own_stU {W : World} {v : Value} {l : List Nat} {ka : List (Nat × Obj)} (own : W.ownsRow 0 76 1 v l.length (u64V l)) (hk : ∀ g, v.ownBlock = some g → ∃ o, (g, o) ∈ ka) (hW : ∀ p ∈ ka, W.heap[p.1]? = some p.2) (hz : l.length ≤ 4611686018427387903) :
  ∃ sa d, v = .slice sa l.length d ∧ l.length ≤ d ∧ StU ka sa l := by
 rcases own.2 with ⟨rfl, h0⟩ | ⟨g, cap, cur, rfl, hbg, hg, hn, _, _, htake⟩
 ·exact ⟨none, 0, by rw [h0], by omega, fun W' _ => ⟨hz, fun i hi => by omega⟩⟩
 ·obtain ⟨o, ho⟩ := hk g rfl
  refine ⟨_, cap, rfl, by omega, fun W' hW' => ⟨hz, fun i hi => ?_⟩⟩
  have hr := hW' _ ho
  have hr0 := hW _ ho
  dsimp only at hr hr0
  rw [hg] at hr0
  injection hr0 with hr0
  rw [← hr0] at hr
  have e1 : (u64V l)[i]? = some (.int .u64 (l[i] : Int)) := by unfold u64V; rw [List.getElem?_map, List.getElem?_eq_getElem hi]; rfl
  rw [← htake, List.getElem?_take_of_lt (by omega)] at e1
  refine ⟨g, 0, rfl, lt_of_block hr, ?_⟩
  rw [Nat.zero_add, cell_of_row _ _ _ _ _ _ hr, ← Array.getElem?_toList]
  exact e1
/-- an empty ring -/
def ring0 : Array Value := #[.slice none 0 0, .int .i64 0, .slice none 0 0, .int .i64 0, .slice none 0 0, .int .i64 0, .slice none 0 0, .int .i64 0, .slice none 0 0, .int .i64 0, .slice none 0 0, .int .i64 0, .slice none 0 0, .int .i64 0, .slice none 0 0, .int .i64 0, .slice none 0 0, .int .i64 0, .slice none 0 0, .int .i64 0, .slice none 0 0, .int .i64 0, .slice none 0 0, .int .i64 0, .slice none 0 0, .int .i64 0, .slice none 0 0, .int .i64 0, .slice none 0 0, .int .i64 0, .slice none 0 0, .int .i64 0, .slice none 0 0, .int .i64 0, .int .i64 0]
theorem ring0_ok (ls : List (Nat × Obj)) : Ring [] ring0 0 ls := by
 refine ⟨(show (0 + 35 : Nat) ≤ 35 from by decide), rfl, fun k hk => ⟨none, 0, 0, 0, ?_, ?_⟩, fun j hj => by cases hj⟩
 ·have : k = 0 ∨ k = 1 ∨ k = 2 ∨ k = 3 ∨ k = 4 ∨ k = 5 ∨ k = 6 ∨ k = 7 ∨ k = 8 ∨ k = 9 ∨ k = 10 ∨ k = 11 ∨ k = 12 ∨ k = 13 ∨ k = 14 ∨ k = 15 ∨ k = 16 := by omega
  rcases this with rfl | rfl | rfl | rfl | rfl | rfl | rfl | rfl | rfl | rfl | rfl | rfl | rfl | rfl | rfl | rfl | rfl <;> rfl
 ·have : k = 0 ∨ k = 1 ∨ k = 2 ∨ k = 3 ∨ k = 4 ∨ k = 5 ∨ k = 6 ∨ k = 7 ∨ k = 8 ∨ k = 9 ∨ k = 10 ∨ k = 11 ∨ k = 12 ∨ k = 13 ∨ k = 14 ∨ k = 15 ∨ k = 16 := by omega
  rcases this with rfl | rfl | rfl | rfl | rfl | rfl | rfl | rfl | rfl | rfl | rfl | rfl | rfl | rfl | rfl | rfl | rfl <;> rfl
/-- the state at a reading's start -/
theorem DR.start {N : Nat} {w W : World} {wr : Option (Nat × Bits)} {rb : Nat} {s : ByteArray} {a : Nat} {ks : List (Nat × Obj)} (h : FS w wr (some (rb, s, a)) ks W) (hN : N ≤ W.heap.size) : DR w wr [] rb s a (W.heap.size + 1) [] [] [] [(W.heap.size, .cells #[.int .u64 0] 76 (0, 0))] ks (.slice none 0 0) [] [] (.slice (some ⟨W.heap.size, 0, none⟩) 1 1) [0] N ((W.alloc (.cells #[.int .u64 0] 76)).alloc (.cells ring0 116)) := by
 have f1 := h.add #[.int .u64 0] 76
 have f2 := f1.add ring0 116
 have hz : (W.alloc (.cells #[.int .u64 0] 76)).heap.size = W.heap.size + 1 := by simp
 rw [hz] at f2
 have old : ∀ p ∈ ks, p.1 < W.heap.size := fun p hp => lt_of_block (h.row (b := p.1) (o := p.2) hp)
 have hr := f2.row (List.mem_cons_of_mem _ (List.mem_cons_self ..))
 refine ⟨⟨ring0, f2, fun p hp => ?_, rfl, ring0_ok []⟩, KA.none, ⟨fun g hg => ⟨.cells #[.int .u64 0] 76 (0, 0), by injection hg with hg; subst hg; exact List.mem_singleton.2 rfl⟩, fun p hp => by rw [List.mem_singleton.1 hp]; rfl⟩, World.ownsRow_nil _ _ _ _, ⟨rfl, .inr ⟨W.heap.size, 1, _, rfl, Nat.zero_le _, hr, Nat.le_refl _, by decide, rfl, rfl⟩⟩, GRow.nil _, Off.none _, fun p hp e => ?_, fun p hp => ?_⟩
 ·simp only [List.nil_append, List.mem_append, List.mem_cons, List.not_mem_nil, or_false] at hp
  rcases hp with rfl | hp
  ·show W.heap.size ≠ W.heap.size + 1; omega
  ·have := old p hp; omega
 ·simp only [List.nil_append] at hp
  have e : some p.1 = some W.heap.size := e
  injection e with e
  have := old p hp
  omega
 ·simp only [List.nil_append, List.append_nil, List.mem_cons, List.not_mem_nil, or_false] at hp
  subst hp
  exact hN
set_option maxRecDepth 100000 in
set_option maxHeartbeats 6400000 in
theorem bdec_any {w W : World} {wr : Option (Nat × Bits)} {rb : Nat} {s : ByteArray} {a : Nat} {ks : List (Nat × Obj)} (h : FS w wr (some (rb, s, a)) ks W) (hG : GL w) (b : Bp) (hb : BpOk (b.p.win : Int) (b.depth : Int) (b.p.itv : Int) (b.p.zet : Int) (b.cap : Int)) (hbp : b.p.ok) (n : Nat) (hn : n ≤ 65536) :
  Calls Tryd.prog 30 #[.pointer (some ⟨rb, 0, none⟩), .int .i64 (n : Int), bpV (b.p.win : Int) (b.depth : Int) (b.p.itv : Int) (b.p.zet : Int) (b.cap : Int)] W (BdP w wr W.heap.size rb s a ks (rplaces b n (unpack (nats s)) a (n + 1)) (readB b n (unpack (nats s)) a n)) := by
 obtain ⟨j0, hj, hj0, hj1, hj2⟩ := info_parts Tryd.infoU64
 obtain ⟨g0, hg, hg0, hg1, hg2⟩ := info_parts Tryd.infoU32s
 obtain ⟨i0, hi, hi0, hi1, hi2⟩ := info_parts Tryd.infoU32
 have hdp : b.depth ≤ 16 := by have := hb.2.2.1; omega
 have CK := Lib.hid (fun W' => bcheck_any (b.p.win : Int) (b.depth : Int) (b.p.itv : Int) (b.p.zet : Int) (b.cap : Int) W')
 rw [if_pos hb] at CK
 have H := Lib.hid h
 have hra : a ≤ 8 * s.size ∧ s.size ≤ 1152921504606846975 := by
  obtain ⟨x, _, _, hr, _⟩ := h
  exact ⟨(hr _ rfl).2.2.1, (hr _ rfl).2.2.2⟩
 obtain ⟨ha8, hs8⟩ := hra
 clear hb h
 obtain ⟨pb, hpb⟩ : ∃ z, W.heap.size = z := ⟨_, rfl⟩
 rw [hpb]
 obtain ⟨B, hB⟩ : ∃ B, unpack (nats s) = B := ⟨_, rfl⟩
 have HBL : Hid (B.length = 8 * s.size) := Lib.hid (by rw [← hB, bits_len])
 have NX2 := Lib.hid (fun T (hx : T.length < 65536) (hT : TOk T) a' lb ls K W' (h' : NX w wr T rb s a' lb ls K W') => next_any (b := b) h' hG hbp hdp hx hT n hn)
 rw [hB] at NX2 ⊢
 clear hB
 unfold bpV at CK NX2 ⊢
 have hnI : decide ((n : Int) < 0) = false := decide_eq_false (by omega)
 have hnJ : decide ((65536 : Int) < (n : Int)) = false := decide_eq_false (by omega)
 have hnK : decide (65536 < n) = false := decide_eq_false (by omega)
 go_enter Tryd.func30, Tryd.ntmps30
 go_wp2_with fail
 have F1 := H.out.add #[.int .i64 (b.p.win : Int), .int .i64 (b.depth : Int), .int .i64 (b.p.itv : Int), .int .i64 (b.p.zet : Int), .int .i64 (b.cap : Int)] 70
 rw [hpb] at F1
 with_reducible refine (CK.out _).mono ?_
 rintro e w2 ⟨rfl, k2⟩
 have F2 := Lib.hid (F1.next k2)
 have AT := Lib.hid F2.out.at_
 clear F1 k2
 go_wp2_with fail
 with_reducible refine AT.out.mono ?_
 rintro e w3 ⟨rfl, rfl⟩
 go_upto_region 9 with fail
 have hN2 : pb ≤ w2.heap.size := by
  have := lt_of_block (F2.out.row (List.mem_cons_self ..))
  omega
 obtain ⟨K1, hK1⟩ : ∃ K, ((pb, Obj.cells #[.int .i64 (b.p.win : Int), .int .i64 (b.depth : Int), .int .i64 (b.p.itv : Int), .int .i64 (b.p.zet : Int), .int .i64 (b.cap : Int)] 70 (0, 0)) :: ks) = K := ⟨_, rfl⟩
 have HK1 := Lib.hid hK1
 rw [hK1] at F2
 have D0 := Lib.hid (DR.start (N := pb) F2.out hN2)
 unfold ring0 at D0
 obtain ⟨sb, hsb⟩ : ∃ z, w2.heap.size = z := ⟨_, rfl⟩
 rw [hsb] at D0
 obtain ⟨lb, hlb⟩ : ∃ z, w2.heap.size + 1 = z := ⟨_, rfl⟩
 rw [← hsb, hlb, hsb] at D0
 rw [hlb, hsb]
 have hsl : sb + 1 = lb := by rw [← hsb]; exact hlb
 generalize hW3 : World.alloc (World.alloc w2 _) _ = w3 at D0 ⊢
 have PC : Hid (∀ T a' ls gs kg ka vg V G va A W', DR w wr T rb s a' lb ls gs kg ka K1 vg V G va A pb W' → W'.cell? ⟨pb, 0, none⟩ = some (.int .i64 (b.p.win : Int)) ∧ W'.cell? ⟨pb, 1, none⟩ = some (.int .i64 (b.depth : Int)) ∧ W'.cell? ⟨pb, 2, none⟩ = some (.int .i64 (b.p.itv : Int)) ∧ W'.cell? ⟨pb, 3, none⟩ = some (.int .i64 (b.p.zet : Int)) ∧ W'.cell? ⟨pb, 4, none⟩ = some (.int .i64 (b.cap : Int)) ∧ pb ≤ W'.heap.size) := Lib.hid (fun T a' ls gs kg ka vg V G va A W' h' => by
  have e2 := h'.nx.has (p := (pb, Obj.cells #[.int .i64 (b.p.win : Int), .int .i64 (b.depth : Int), .int .i64 (b.p.itv : Int), .int .i64 (b.p.zet : Int), .int .i64 (b.cap : Int)] 70 (0, 0))) (by
   rw [← hK1]
   simp)
  exact ⟨by rw [cell_of_row _ _ _ _ _ _ e2]; rfl, by rw [cell_of_row _ _ _ _ _ _ e2]; rfl, by rw [cell_of_row _ _ _ _ _ _ e2]; rfl, by rw [cell_of_row _ _ _ _ _ _ e2]; rfl, by rw [cell_of_row _ _ _ _ _ _ e2]; rfl, Nat.le_of_lt (lt_of_block e2)⟩)
 have NO : Hid (∀ k a' ls gs kg ka vg V G va A T W' , k ≤ n → readB b n B a k = none → DR w wr T rb s a' lb ls gs kg ka K1 vg V G va A pb W' → Calls Tryd.prog 40 #[.pointer (some ⟨rb, 0, none⟩), .int .i64 (a : Int)] W' fun e w' => e = .returned (.int .i64 0) ∧ BdP w wr pb rb s a ks (rplaces b n B a (n + 1)) (readB b n B a n) (.returned (.tuple #[.slice none 0 0, .slice none 0 0, .int .i64 4])) w') := Lib.hid (fun k a' ls gs kg ka vg V G va A T W' hk he h' => by
  refine (h'.nx.fs.seek a ha8).mono ?_
  rintro e w' ⟨rfl, h2⟩
  refine ⟨rfl, ?_⟩
  rw [readB_none he hk]
  exact ⟨rfl, h2.sub (fun p hp => by rw [← hK1]; simp [hp])⟩)
 clear hpb hsb hlb hW3 F2 hK1 AT H CK hN2
 go_wp2_with fail
 go_loopw [10, 11, 12, 35] (fun v10 v11 v12 v35 wr' => ∃ (i : Nat) (T : List Tk) (a' : Nat) (ls gs kg ka : List (Nat × Obj)) (V : List Value), v35 = .int .i64 (i : Int) ∧ i ≤ n ∧ readB b n B a i = some (T, a') ∧ v10 = .int .i64 (edges (T.map (·.1)) : Int) ∧ DR w wr T rb s a' lb ls gs kg ka K1 v11 V (T.map (·.1)) v12 (rplaces b n B a (i + 1)) pb wr') (fun _ _ _ v35 _ => n - (intOf v35).toNat)
 case atStart => exact ⟨0, [], a, [], [], [], _, [], rfl, Nat.zero_le _, rfl, rfl, by rw [rplaces_one]; exact D0.out⟩
 case round =>
  obtain ⟨i, T, a', ls, gs, kg, ka, V, rfl, hin, hrd, rfl, hD⟩ := hrel
  rename World => w4
  have HD := Lib.hid hD
  obtain ⟨sg, cg, rfl⟩ := own_shape hD.og
  obtain ⟨sa, ca, rfl⟩ := own_shape hD.oa
  have ha' : a' ≤ B.length := by
   rw [HBL.out]
   obtain ⟨x, _, _, hr, _⟩ := hD.nx.fs
   exact (hr _ rfl).2.2.1
  obtain ⟨hTl, hTO, haa, hE, hTn⟩ := readB_some hbp hn (by rw [HBL.out]; exact ha8) i _ hrd ha'
  dsimp only at hTl hTO haa hE hTn
  have HTO := Lib.hid hTO
  have HRD := Lib.hid hrd
  obtain ⟨E, hEE⟩ : ∃ z, edges (T.map (·.1)) = z := ⟨_, rfl⟩
  have HEE := Lib.hid hEE
  have HTN := Lib.hid hTn
  have HTL := Lib.hid hTl
  rw [hEE] at hE ⊢
  clear hD D0 hTO hrd hEE hTn
  by_cases hlt : i < n
  ·--A
   have i1 : decide ((i : Int) < (n : Int)) = true := decide_eq_true (by omega)
   obtain ⟨O, hO⟩ : ∃ O, nextB b T n B a' = O := ⟨_, rfl⟩
   have HO := Lib.hid hO
   have NXT := Lib.hid (NX2.out T (by omega) HTO.out a' lb ls _ w4 HD.out.nx)
   rw [hO] at NXT
   obtain ⟨p0, p1, p2, p3, p4, hp9⟩ := PC.out _ _ _ _ _ _ _ _ _ _ _ _ HD.out
   clear hO
   go_wp2_with fail
   with_reducible refine NXT.out.mono ?_
   rintro e w5 hP
   clear p0 p1 p2 p3 p4 NXT
   cases O with
   | none =>
    obtain ⟨rfl, a2, h5⟩ := hP
    have SE := Lib.hid (NO.out (i + 1) _ _ _ _ _ _ _ _ _ _ _ w5 (by omega) (by unfold readB; rw [HRD.out, Option.bind_some]; dsimp only; rw [HO.out]; rfl) (HD.out.read (kv := []) h5 (fun p hp => by cases hp)))
    clear h5
    go_wp2_with fail
    with_reducible refine SE.out.mono ?_
    rintro e w6 ⟨rfl, h6⟩
    have H6 := Lib.hid h6
    clear h6 SE
    go_wp2_with fail
    exact bodyPost_ret (v := .tuple #[.slice none 0 0, .slice none 0 0, .int .i64 4]) (by simp [results, Tryd.results30, go_sem]) rfl H6.out
   | some q =>
    obtain ⟨⟨l, ch⟩, a2⟩ := q
    obtain ⟨v5, kv, rfl, own5, hkv, h5⟩ := hP
    dsimp only at own5 h5
    obtain ⟨hris, hln, hlv, haa2⟩ := nextB_some hbp hn ha' HO.out
    dsimp only at hris hln hlv haa2
    have hE2 : edges ((T ++ [(l, ch)]).map (·.1)) = E + l.length := by rw [List.map_append, List.map_singleton, edges_snoc, HEE.out]
    have HE2 := Lib.hid hE2
    have D5 := Lib.hid (HD.out.read h5 hkv)
    obtain ⟨sv, cv, rfl, hcv, hLV5⟩ := lv_own (by omega) (fun u hu => by have := hlv u hu; omega) own5
    have HLV5 := Lib.hid hLV5
    have HRIS := Lib.hid (And.intro hris hlv)
    obtain ⟨m, hm⟩ : ∃ z, l.length = z := ⟨_, rfl⟩
    have HM := Lib.hid hm
    rw [hm] at hln hcv ⊢
    clear hE2 h5 own5 hLV5 hris hlv hm
    by_cases hE5 : E + m ≤ 1048576
    ·have i2 : decide ((1048576 : Int) < (E : Int) + (m : Int)) = false := decide_eq_false (by omega)
     obtain ⟨nv, hnv⟩ : ∃ z, V.length = z := ⟨_, rfl⟩
     obtain ⟨na, hna⟩ : ∃ z, (rplaces b n B a (i + 1)).length = z := ⟨_, rfl⟩
     have HNV := Lib.hid hnv
     have HNA := Lib.hid hna
     have hnv9 : nv ≤ 65536 := by
      have h9 := HD.out.rows.1
      rw [List.length_map, HTL.out] at h9
      omega
     have hna9 : na ≤ 65537 := by
      have h9 := rplaces_length b n B a (i + 1)
      omega
     rw [hnv, hna]
     have C3 : Hid (0 + m ≤ maxLen) := Lib.hid (by simp only [maxLen]; omega)
     have C4 : Hid ((0 + m) * 4 ≤ 140737488355328) := Lib.hid (by omega)
     have C5 : Hid (nv + 1 ≤ maxLen) := Lib.hid (by simp only [maxLen]; omega)
     have C6 : Hid ((nv + 1) * 24 ≤ 140737488355328) := Lib.hid (by omega)
     have C7 : Hid (na + 1 ≤ maxLen) := Lib.hid (by simp only [maxLen]; omega)
     have C8 : Hid ((na + 1) * 8 ≤ 140737488355328) := Lib.hid (by omega)
     have RD2 : Hid (readB b n B a (i + 1) = some (T ++ [(l, ch)], a2)) := Lib.hid (by
      unfold readB
      rw [HRD.out, Option.bind_some]
      dsimp only
      rw [HO.out, Option.bind_some]
      dsimp only
      rw [HE2.out, HM.out, if_pos hE5])
     have hN5 := (PC.out _ _ _ _ _ _ _ _ _ _ _ _ D5.out).2.2.2.2.2
     clear hnv hna
     go_wp2_with (at_builtin; refine wpList_append_lv _ rfl _ _ 29 rfl w5.heap.size 60 i0 _ 4 Tryd.underlying29 hi hi0 hi1 hi2 rfl _ 0 _ rfl (World.ownsRow_nil _ _ _ _) sv m cv l rfl HM.out HLV5.out C3.out C4.out (Nat.le_refl _) ?_)
     intro v6 w6 own6 hg6 hw6
     obtain ⟨kl, sl, dl, e6, hdl, hstl, hD6⟩ := D5.out.copy hN5 (v2 := v6) (l := l) (by rw [HM.out]; exact own6) ⟨hg6.os, hg6.tape, hg6.output, hg6.size, fun b hb => hg6.block b hb (fun e => by cases e)⟩ (by rw [HM.out]; omega) (fun x hx => by have := HRIS.out.2 x hx; omega)
     rw [HM.out] at e6 hdl
     subst e6
     have D6 := Lib.hid hD6
     have HSTL := Lib.hid (And.intro hdl hstl)
     have hN6 := (PC.out _ _ _ _ _ _ _ _ _ _ _ _ hD6).2.2.2.2.2
     have OG : Hid ((w6.alloc (.cells #[.slice sl m dl] 29)).ownsRow 0 29 1 (.slice sg nv cg) nv V) := Lib.hid (by
      have h := hD6.og.alloc (.cells #[.slice sl m dl] 29)
      rw [HNV.out] at h
      exact h)
     clear own6 hg6 hw6 hD6 hdl hstl D5
     go_wp2_with (at_builtin; refine wpList_append_at _ rfl _ _ 62 rfl 0 29 g0 _ 1 24 Tryd.underlying62 hg hg0 hg1 hg2 rfl (by decide) _ nv _ rfl OG.out ⟨w6.heap.size, 0, none⟩ 1 1 [.slice sl m dl] rfl rfl (cell_one_new _ _ _) (fun u hu => by simp at hu; subst hu; rfl) C5.out C6.out (Nat.zero_le _) (by decide) ?_)
     intro v7 w7 own7 hg7 hw7
     obtain ⟨kg', hD7⟩ := (D6.out.next ((Below.refl _ _).alloc (Nat.le_refl _) (.cells #[.slice sl m dl] 29))).pushG (l := l) (sl := sl) (d := dl) (by simp; omega) (by rw [HM.out]; exact HSTL.out.1) (HSTL.out.2.more (fun p hp => List.mem_append_left _ hp)) (by rw [HNV.out, HM.out]; exact own7) (by rw [HNV.out]; exact hg7) (by rw [HNV.out]; simpa using hw7)
     have D7 := Lib.hid hD7
     have AT := Lib.hid hD7.nx.fs.at_
     have hN7 := (PC.out _ _ _ _ _ _ _ _ _ _ _ _ hD7).2.2.2.2.2
     obtain ⟨z, hz⟩ : ∃ z, a2 - a = z := ⟨_, rfl⟩
     have HZ := Lib.hid hz
     have ha2 : a2 ≤ 8 * s.size := by
      obtain ⟨x, _, _, hr, _⟩ := hD7.nx.fs
      exact (hr _ rfl).2.2.1
     have w1 : IntKind.i64.wrap ((a2 : Int) - (a : Int)) = (z : Int) := by rw [IntWalk.i64_in _ (by omega)]; omega
     have hz9 : z ≤ 9223372036854775807 := by omega
     have w2u : IntKind.u64.wrap (z : Int) = (z : Int) := IntWalk.u64_in _ (by omega)
     have hV7 : (V ++ [Value.slice sl l.length dl]).length = nv + 1 := by rw [List.length_append, HNV.out]; rfl
     have HV7 := Lib.hid hV7
     clear own7 hg7 hw7 hD7 OG D6 hz hV7
     go_wp2_with fail
     with_reducible refine AT.out.mono ?_
     rintro e w8 ⟨rfl, rfl⟩
     have OA : Hid ((w7.alloc (.cells #[.int .u64 (z : Int)] 76)).ownsRow 0 76 1 (.slice sa na ca) na (u64V (rplaces b n B a (i + 1)))) := Lib.hid (by
      have h := D7.out.oa.alloc (.cells #[.int .u64 (z : Int)] 76)
      rw [HNA.out] at h
      exact h)
     go_wp2_with (at_builtin; refine wpList_append_at _ rfl _ _ 67 rfl 0 76 j0 _ 1 8 Tryd.underlying67 hj hj0 hj1 hj2 rfl (by decide) _ na _ rfl OA.out ⟨w7.heap.size, 0, none⟩ 1 1 [.int .u64 (z : Int)] rfl rfl (cell_one_new _ _ _) (fun u hu => by simp at hu; subst hu; rfl) C7.out C8.out (Nat.zero_le _) (by decide) ?_)
     intro v9 w9 own9 hg9 hw9
     obtain ⟨ka', hD9⟩ := (D7.out.next ((Below.refl _ _).alloc (Nat.le_refl _) (.cells #[.int .u64 (z : Int)] 76))).pushA (z := z) (by simp; omega) (by rw [HNA.out]; exact own9) (by rw [HNA.out]; exact hg9) (by rw [HNA.out]; simpa using hw9)
     have D9 := Lib.hid hD9
     clear own9 hg9 hw9 hD9 OA AT D7 w1 w2u
     go_wp2_with fail
     go_roundw
     case rel => exact ⟨i + 1, T ++ [(l, ch)], a2, kv ++ ls, kl ++ gs, kg', ka', V ++ [.slice sl l.length dl], by go_num, by omega, RD2.out, by rw [HE2.out, HM.out]; go_num, by
      have h := D9.out
      have e1 : rplaces b n B a (i + 1 + 1) = rplaces b n B a (i + 1) ++ [z] := by
       rw [rplaces_succ]
       unfold rplace
       rw [RD2.out]
       dsimp only
       rw [HZ.out]
      rw [e1, List.map_append]
      exact h⟩
     case measure => simp [intOf]; omega
    ·have i2 : decide ((1048576 : Int) < (E : Int) + (m : Int)) = true := decide_eq_true (by omega)
     have SE := Lib.hid (NO.out (i + 1) _ _ _ _ _ _ _ _ _ _ _ w5 (by omega) (by unfold readB; rw [HRD.out, Option.bind_some]; dsimp only; rw [HO.out, Option.bind_some]; dsimp only; rw [HE2.out, HM.out, if_neg hE5]) D5.out)
     go_wp2_with fail
     with_reducible refine SE.out.mono ?_
     rintro e w6 ⟨rfl, h6⟩
     have H6 := Lib.hid h6
     clear h6 SE
     go_wp2_with fail
     exact bodyPost_ret (v := .tuple #[.slice none 0 0, .slice none 0 0, .int .i64 4]) (by simp [results, Tryd.results30, go_sem]) rfl H6.out
  ·--B
   have hin2 : i = n := by omega
   have i1 : decide ((i : Int) < (n : Int)) = false := decide_eq_false (by omega)
   have HIN := Lib.hid hin2
   obtain ⟨nv, hnv⟩ : ∃ z, V.length = z := ⟨_, rfl⟩
   obtain ⟨na, hna⟩ : ∃ z, (rplaces b n B a (i + 1)).length = z := ⟨_, rfl⟩
   have HNV := Lib.hid hnv
   have HNA := Lib.hid hna
   rw [hnv, hna]
   clear hin2 hnv hna
   have FIN : Hid (BdP w wr pb rb s a ks (rplaces b n B a (n + 1)) (readB b n B a n) (.returned (.tuple #[.slice sg nv cg, .slice sa na ca, .int .i64 0])) w4) := Lib.hid (by
    have hrd := HRD.out
    rw [HIN.out] at hrd
    rw [hrd]
    have hg3 := HD.out.rows
    have hl1 := hg3.1
    rw [List.length_map, HTL.out] at hl1
    have hl2 : (rplaces b n B a (i + 1)).length = i + 1 := rplaces_length ..
    obtain ⟨s1, d1, e1, e2, e3⟩ := own_stG HD.out.og HD.out.hkg.1 (fun p hp => HD.out.nx.has (List.mem_append_right _ (List.mem_append_left _ hp))) hg3 (by rw [List.length_map, HTL.out]; omega)
    obtain ⟨s2, d2, e4, e5, e6⟩ := own_stU HD.out.oa HD.out.hka.1 (fun p hp => HD.out.nx.has (List.mem_append_right _ (List.mem_append_right _ (List.mem_append_left _ hp)))) (by rw [hl2]; omega)
    rw [HIN.out] at e4 e5 e6
    have hna := HNA.out
    rw [HIN.out] at hna
    refine ⟨_, _, kg ++ (ka ++ gs), s1, d1, s2, d2, rfl, HD.out.nx.fs.sub (fun p hp => ?_), HD.out.new, ?_, ?_, fun W' hW' => e3 W' (fun p hp => hW' p ?_), ?_, ?_, fun W' hW' => e6 W' (fun p hp => hW' p ?_)⟩
    ·rw [← HK1.out]
     simp only [List.mem_append, List.mem_cons] at hp ⊢
     rcases hp with (hp | hp | hp) | hp
     ·exact .inl hp
     ·exact .inr (.inl hp)
     ·exact .inr (.inr (.inl hp))
     ·exact .inr (.inr (.inr (.inr hp)))
    ·rw [← HNV.out, e1, List.length_map]
    ·rw [List.length_map] at e2; exact e2
    ·simp only [List.mem_append] at hp ⊢
     rcases hp with hp | hp
     ·exact .inl hp
     ·exact .inr (.inr hp)
    ·rw [← hna, e4]
    ·exact e5
    ·simp only [List.mem_append]
     exact .inr (.inl hp))
   go_wp2_with fail
   exact bodyPost_ret (v := .tuple #[.slice sg nv cg, .slice sa na ca, .int .i64 0]) (by simp [results, Tryd.results30, go_sem]) rfl FIN.out
end Go.Proofs.YtflnpcgnenhogaaDoor.ls
namespace Go.Proofs.YtflnpcgnenhogaaDoor.ls
open Go.RowKit Go.Proofs.YtflnpcgnenhogaaDoor.own Go.Proofs.YtflnpcgnenhogaaDoor.bit

/-- a graph that a call reads -/
def SeenG (w : World) (ks : List (Nat × Obj)) (a : Option Addr) (G : List (List Nat)) : Prop :=
 G.length ≤ 4611686018427387903 ∧ ∀ i (h : i < G.length), ∃ g o s d, a = some ⟨g, o, none⟩ ∧ G[i].length ≤ d ∧ Seen w ks s G[i] ∧ ∀ W : World, Below w.heap.size w W → (∀ p ∈ ks, W.heap[p.1]? = some p.2) → g < W.heap.size ∧ W.cell? ⟨g, o + i, none⟩ = some (.slice s G[i].length d)
theorem SeenG.lls {w W : World} {ks : List (Nat × Obj)} {a : Option Addr} {G : List (List Nat)} (h : SeenG w ks a G) (k : Below w.heap.size w W) (hk : ∀ p ∈ ks, W.heap[p.1]? = some p.2) : LLs W a G :=
 ⟨h.1, fun i hi => by
  obtain ⟨g, o, s, d, h1, h2, h3, h4⟩ := h.2 i hi
  obtain ⟨h5, h6⟩ := h4 W k hk
  exact ⟨g, o, s, d, h1, h5, h6, h2, h3 W k hk⟩⟩
theorem SeenG.of {w : World} (ks : List (Nat × Obj)) {a : Option Addr} {G : List (List Nat)} (h : LLs w a G) : SeenG w ks a G :=
 ⟨h.1, fun i hi => by
  obtain ⟨g, o, s, d, h1, h2, h3, h4, h5⟩ := h.2 i hi
  exact ⟨g, o, s, d, h1, h4, Seen.of w ks h5, fun W k _ => ⟨Nat.lt_of_lt_of_le h2 k.size, (k.cell (p := ⟨g, o + i, none⟩) h2).trans h3⟩⟩⟩
/-- the answer of Encode -/
def EncP (w : World) (b : Bp) (G : List (List Nat)) (ks : List (Nat × Obj)) (e : Ending) (w' : World) : Prop :=
 ∃ va kb wb ls, e = .returned (.tuple #[.string (txt (packN (stB b G).2)), va, .int .i64 0]) ∧ EA w b (stB b G).1 wb (edges G) (stB b G).2 kb ls ks va (atB b G (G.length + 1)) w'
set_option maxRecDepth 100000 in
set_option maxHeartbeats 6400000 in
theorem benc_yes {w W : World} {ks : List (Nat × Obj)} (b : Bp) (a : Option Addr) (G : List (List Nat)) (cap : Nat) (h : FS w none none ks W) (hG : GL w) (hb : BpOk (b.p.win : Int) (b.depth : Int) (b.p.itv : Int) (b.p.zet : Int) (b.cap : Int)) (hbp : b.p.ok) (hA : SeenG w ks a G)
  (hn : G.length ≤ 65536) (hr : ∀ l ∈ G, Ris l) (hv : ∀ l ∈ G, ∀ v ∈ l, v < G.length) (hE : edges G ≤ 1048576) :
  Calls Tryd.prog 27 #[.slice a G.length cap, bpV (b.p.win : Int) (b.depth : Int) (b.p.itv : Int) (b.p.zet : Int) (b.cap : Int)] W (EncP w b G ks) := by
 obtain ⟨j0, hj, hj0, hj1, hj2⟩ := info_parts Tryd.infoU64
 have hdp : b.depth ≤ 16 := by have := hb.2.2.1; omega
 have HS := Lib.hid (fun i (hi : i ≤ G.length) => stB_len hbp G hr hn i hi)
 have HE := Lib.hid (fun i => Nat.le_trans (edges_take_le G i) hE)
 have HGR := Lib.hid (fun W' (k : LLs W' a G) => graph_yes W' a G cap k hn hr hv hE)
 have NW := Lib.hid (fun ks' W' (h' : FS w none none ks' W') => bnew_yes b hb h')
 have HA := Lib.hid hA
 have HRI := Lib.hid hr
 have H := Lib.hid h
 obtain ⟨n, hnn⟩ : ∃ n, G.length = n := ⟨_, rfl⟩
 have HN := Lib.hid hnn
 rw [hnn] at hn HGR ⊢
 clear hA hr hv hnn hE h hb
 unfold bpV at NW ⊢
 go_enter Tryd.func27, Tryd.ntmps27
 go_wp2_with fail
 have F1 := H.out.add #[.int .i64 (b.p.win : Int), .int .i64 (b.depth : Int), .int .i64 (b.p.itv : Int), .int .i64 (b.p.zet : Int), .int .i64 (b.cap : Int)] 70
 with_reducible refine (NW.out _ _ (F1.sub (fun p hp => List.mem_cons_of_mem _ hp))).mono ?_
 rintro e w2 ⟨kb, wb, rfl, hK⟩
 have K2 := Lib.hid hK
 have GA := Lib.hid (HGR.out w2 (HA.out.lls hK.below (fun p hp => hK.has hp)))
 clear hK F1 NW HGR
 go_wp2_with fail
 with_reducible refine GA.out.mono ?_
 rintro e w3 ⟨rfl, rfl⟩
 have A0 := Lib.hid (EA.start K2.out)
 go_upto_region 5 with fail
 have hn9 := HA.out.1
 generalize hW3 : World.alloc w2 _ = w3 at A0 ⊢
 obtain ⟨v0, hv0⟩ : ∃ v, Value.slice (some ⟨w2.heap.size, 0, none⟩) 1 1 = v := ⟨_, rfl⟩
 rw [hv0] at A0
 have HV0 := Lib.hid hv0
 clear hW3 GA H
 rw [hv0]
 clear hv0
 go_wp2_with fail
 go_loopw [9, 31] (fun v9 v31 wr => ∃ (i : Nat) (ls : List (Nat × Obj)), v31 = .int .i64 (i : Int) ∧ i ≤ n ∧ EA w b (stB b (G.take i)).1 wb (edges (G.take i)) (stB b (G.take i)).2 kb ls ks v9 (atB b G (i + 1)) wr) (fun _ v31 _ => n - (intOf v31).toNat)
 case atStart =>
  refine ⟨0, [], rfl, Nat.zero_le _, ?_⟩
  have h0 := A0.out
  rw [List.take_zero]
  exact h0
 case round =>
  obtain ⟨i, ls, rfl, hi, hEA⟩ := hrel
  rename World => wr
  have HEA := Lib.hid hEA
  obtain ⟨s9, d9, rfl⟩ := own_shape hEA.1
  clear hEA A0
  by_cases hlt : i < n
  ·have hiG : i < G.length := by rw [HN.out]; exact hlt
   obtain ⟨_, e1⟩ := stB_at b G i hiG
   obtain ⟨e1, e2⟩ := e1
   obtain ⟨g, o, s, d, rfl, hd, hsee, hcell⟩ := HA.out.2 i hiG
   obtain ⟨-, hc⟩ := hcell wr HEA.out.below (fun p hp => HEA.out.has hp)
   have hril := HRI.out _ (List.getElem_mem hiG)
   have hTl : (stB b (G.take i)).1.length = i := by rw [stB_length, List.length_take]; omega
   have hTO : TOk (stB b (G.take i)).1 := stB_ok b _ (fun l hl => HRI.out l (List.mem_of_mem_take hl))
   have hES : edges (G.take (i + 1)) = edges (G.take i) + G[i].length := by rw [List.take_succ_eq_append_getElem hiG, edges_snoc]
   have hE1 := HE.out (i + 1)
   have hl1 := HS.out (i + 1) (by omega)
   rw [e2] at hl1
   have hl2 : (stB b (G.take i)).2.length + (addB b (stB b (G.take i)).1 G[i]).length ≤ 134217728 := by
    have : ((stB b (G.take i)).2 ++ addB b (stB b (G.take i)).1 G[i]).length ≤ 120 * (i + 1) + 80 * edges (G.take (i + 1)) := hl1
    rw [List.length_append] at this
    omega
   have AD := Lib.hid (HEA.out.add hG hbp hdp (by omega) hril hTO hd hsee (by omega) hl2)
   have HE2 : Hid ((stB b (G.take (i + 1))) = runB b (stB b (G.take i)) G[i] ∧ edges (G.take (i + 1)) = edges (G.take i) + G[i].length) := Lib.hid ⟨e2, hES⟩
   obtain ⟨l, hl⟩ : ∃ l, G[i] = l := ⟨_, rfl⟩
   have hm65 := hril.len
   rw [hl] at AD HE2 hc hl2 hm65
   obtain ⟨T, hT⟩ : ∃ T, stB b (G.take i) = T := ⟨_, rfl⟩
   have HT := Lib.hid hT
   rw [hT] at AD HE2 hl2
   obtain ⟨m, hm⟩ : ∃ m, l.length = m := ⟨_, rfl⟩
   have HM := Lib.hid hm
   rw [hm] at hc hm65
   rw [hm] at AD
   have i1 : decide ((i : Int) < (n : Int)) = true := decide_eq_true (by omega)
   clear e1 e2 hd hsee hcell hril hTl hTO hES hE1 hl1 hT hm hl
   go_wp2_with fail
   with_reducible refine AD.out.mono ?_
   rintro e w5 ⟨rfl, ls5, hE5⟩
   have E5 := Lib.hid hE5
   have BI := Lib.hid (hE5.bits (by rw [List.length_append]; omega))
   obtain ⟨lb, hlb⟩ : ∃ z, (T.2 ++ addB b T.1 l).length = z := ⟨_, rfl⟩
   have HLB := Lib.hid hlb
   have hlb9 : lb ≤ 134217728 := by rw [← hlb, List.length_append]; exact hl2
   rw [hlb] at BI
   clear hE5 AD hlb
   go_wp2_with fail
   with_reducible refine BI.out.mono ?_
   rintro e w6 ⟨rfl, hE6⟩
   have E6 := Lib.hid hE6
   have uw : IntKind.u64.wrap (lb : Int) = (lb : Int) := IntWalk.u64_in _ (by omega)
   clear hE6 BI
   have AT : Hid (atB b G (i + 1 + 1) = atB b G (i + 1) ++ [lb]) := Lib.hid (by rw [atB_succ, HE2.out.1]; show _ ++ [(T.2 ++ addB b T.1 l).length] = _; rw [HLB.out])
   have hna : (atB b G (i + 1)).length = i + 1 := by unfold atB; rw [List.length_map, List.length_range]
   have HNA := Lib.hid hna
   obtain ⟨na, hna2⟩ : ∃ z, (atB b G (i + 1)).length = z := ⟨_, rfl⟩
   have HNA2 := Lib.hid hna2
   have hna9 : na ≤ 65537 := by omega
   have C3 : Hid (na + 1 ≤ maxLen) := Lib.hid (by simp only [maxLen]; omega)
   have C4 : Hid ((na + 1) * 8 ≤ 140737488355328) := Lib.hid (by omega)
   have OA : Hid ((w6.alloc (.cells #[.int .u64 (lb : Int)] 76)).ownsRow 0 76 1 (.slice s9 na d9) na (u64V (atB b G (i + 1)))) := Lib.hid (by
    have h := E6.out.1.alloc (.cells #[.int .u64 (lb : Int)] 76)
    rw [hna2] at h
    exact h)
   rw [hna2] at E6 HEA ⊢
   clear hna hna2 E5 HEA
   go_wp2_with (at_builtin; refine wpList_append_at _ rfl _ _ 67 rfl 0 76 j0 _ 1 8 Tryd.underlying67 hj hj0 hj1 hj2 rfl (by decide) _ na _ rfl OA.out ⟨w6.heap.size, 0, none⟩ 1 1 [.int .u64 (lb : Int)] rfl rfl (cell_one_new _ _ _) (fun u hu => by simp at hu; subst hu; rfl) C3.out C4.out (Nat.zero_le _) (by decide) ?_)
   intro v7 w7 own7 hg7 hw7
   have E7 : Hid (EA w b (stB b (G.take (i + 1))).1 wb (edges (G.take (i + 1))) (stB b (G.take (i + 1))).2 kb ls5 ks v7 (atB b G (i + 1 + 1)) w7) := Lib.hid (by
    rw [AT.out, HE2.out.1, HE2.out.2, HM.out]
    exact E6.out.push _ lb (by rw [HNA2.out]; exact own7) hg7 (by simpa using hw7))
   clear own7 hg7 hw7 OA E6
   go_wp2_with fail
   go_roundw
   case rel => exact ⟨i + 1, ls5, by go_num, by omega, E7.out⟩
   case measure => simp [intOf]; omega
  ·have hin : i = n := by omega
   have i1 : decide ((i : Int) < (n : Int)) = false := decide_eq_false (by omega)
   have TG : Hid (G.take i = G) := Lib.hid (List.take_of_length_le (by rw [HN.out]; omega))
   have HIN := Lib.hid hin
   rw [TG.out] at HEA
   have TX := Lib.hid HEA.out.text
   obtain ⟨na, hna⟩ : ∃ z, (atB b G (i + 1)).length = z := ⟨_, rfl⟩
   have HNA := Lib.hid hna
   obtain ⟨t, ht⟩ : ∃ t, txt (packN (stB b G).2) = t := ⟨_, rfl⟩
   have HTX := Lib.hid ht
   rw [ht] at TX
   rw [hna] at TX HEA ⊢
   clear hna ht hin
   go_wp2_with fail
   with_reducible refine TX.out.mono ?_
   rintro e w8 ⟨rfl, hE8⟩
   have E8 := Lib.hid hE8
   clear hE8 TX HEA
   go_wp2_with fail
   exact bodyPost_ret (v := .tuple #[.string t, .slice s9 na d9, .int .i64 0]) (by simp [results, Tryd.results27, go_sem]) rfl ⟨_, kb, wb, ls, by rw [HTX.out], by rw [HN.out, ← HIN.out]; exact E8.out⟩
end Go.Proofs.YtflnpcgnenhogaaDoor.ls
namespace Go.Proofs.YtflnpcgnenhogaaDoor.ls
open Go.RowKit Go.Proofs.YtflnpcgnenhogaaDoor.own Go.Proofs.YtflnpcgnenhogaaDoor.bit

set_option maxRecDepth 100000 in
theorem bnew_no (win dep itv zet cap : Int) (hb : ¬ BpOk win dep itv zet cap) (w : World) : Calls Tryd.prog 46 #[bpV win dep itv zet cap] w fun e w' => e = .returned (.tuple #[.pointer none, .int .i64 1]) ∧ Below w.heap.size w w' := by
 have CK := Lib.hid (fun W' => bcheck_any win dep itv zet cap W')
 rw [if_neg hb] at CK
 clear hb
 unfold bpV at CK ⊢
 go_enter Tryd.func46, Tryd.ntmps46
 go_wp2_with fail
 have k1 : Below w.heap.size w (w.alloc (.cells #[.int .i64 win, .int .i64 dep, .int .i64 itv, .int .i64 zet, .int .i64 cap] 70)) := (Below.refl _ _).alloc (Nat.le_refl _) _
 with_reducible refine (CK.out _).mono ?_
 rintro e w2 ⟨rfl, k2⟩
 have K2 := Lib.hid (k1.trans (k2.mono k1.size))
 clear k1 k2
 go_wp2_with fail
 go_ret2
 exact ⟨rfl, K2.out⟩
set_option maxRecDepth 100000 in
theorem benc_no (win dep itv zet cap : Int) (hb : ¬ BpOk win dep itv zet cap) (a : Option Addr) (n d : Nat) (w : World) : Calls Tryd.prog 27 #[.slice a n d, bpV win dep itv zet cap] w fun e w' => e = .returned (.tuple #[.string ⟨#[]⟩, .slice none 0 0, .int .i64 1]) ∧ Below w.heap.size w w' := by
 have NW := Lib.hid (fun W' => bnew_no win dep itv zet cap hb W')
 clear hb
 unfold bpV at NW ⊢
 go_enter Tryd.func27, Tryd.ntmps27
 go_wp2_with fail
 have k1 : Below w.heap.size w (w.alloc (.cells #[.int .i64 win, .int .i64 dep, .int .i64 itv, .int .i64 zet, .int .i64 cap] 70)) := (Below.refl _ _).alloc (Nat.le_refl _) _
 with_reducible refine (NW.out _).mono ?_
 rintro e w2 ⟨rfl, k2⟩
 have K2 := Lib.hid (k1.trans (k2.mono k1.size))
 clear k1 k2
 go_wp2_with fail
 exact bodyPost_ret (v := .tuple #[.string ⟨#[]⟩, .slice none 0 0, .int .i64 1]) (by simp [results, Tryd.results27, go_sem]) rfl ⟨rfl, K2.out⟩
end Go.Proofs.YtflnpcgnenhogaaDoor.ls
namespace Go.Proofs.YtflnpcgnenhogaaDoor.ls
open Go.RowKit Go.Proofs.YtflnpcgnenhogaaDoor.own Go.Proofs.YtflnpcgnenhogaaDoor.bit

theorem FS.dropw {w W : World} {wr : Option (Nat × Bits)} {rd : Option (Nat × ByteArray × Nat)} {ks : List (Nat × Obj)} (h : FS w wr rd ks W) : FS w none rd ks W := by
 obtain ⟨x, hf, hw, hr, hk⟩ := h
 exact ⟨x, hf, fun q e => (by cases e), hr, hk⟩
theorem FS.dropr {w W : World} {wr : Option (Nat × Bits)} {rd : Option (Nat × ByteArray × Nat)} {ks : List (Nat × Obj)} (h : FS w wr rd ks W) : FS w wr none ks W := by
 obtain ⟨x, hf, hw, hr, hk⟩ := h
 exact ⟨x, hf, hw, fun q e => (by cases e), hk⟩
/-- what stands behind Encode: the places alone -/
theorem EncP.fs {w w' : World} {b : Bp} {G : List (List Nat)} {ks : List (Nat × Obj)} {e : Ending} (h : EncP w b G ks e w') (hn : G.length ≤ 65536) :
  ∃ sa da ka, e = .returned (.tuple #[.string (txt (packN (stB b G).2)), .slice sa (G.length + 1) da, .int .i64 0]) ∧ FS w none none (ka ++ ks) w' ∧ G.length + 1 ≤ da ∧ StU ka sa (atB b G (G.length + 1)) := by
 obtain ⟨va, kb, wb, ls, rfl, own, ka, h2, h3, h4, h5⟩ := h
 have hl : (atB b G (G.length + 1)).length = G.length + 1 := by unfold atB; rw [List.length_map, List.length_range]
 have f : FS w none none (ka ++ ks) w' := by
  obtain ⟨row, h6, _⟩ := h2
  exact (h6.sub (fun p hp => List.mem_cons_of_mem _ (List.mem_append_right _ hp))).dropw
 obtain ⟨sa, da, e1, e2, e3⟩ := own_stU own h3 (fun p hp => f.row (b := p.1) (o := p.2) (List.mem_append_left _ hp)) (by rw [hl]; omega)
 rw [hl] at e1 e2
 exact ⟨sa, da, ka, by rw [e1], f, e2, e3⟩
theorem atB_get (b : Bp) (G : List (List Nat)) : (atB b G (G.length + 1))[G.length]? = some (stB b G).2.length := by
 unfold atB
 rw [List.getElem?_map, List.getElem?_range (Nat.lt_succ_self _)]
 show some (stB b (G.take G.length)).2.length = _
 rw [List.take_length]
theorem UV.at_ {w : World} {a : Option Addr} {l : List Nat} (h : UV w a l) {i v : Nat} (hi : l[i]? = some v) : ∃ g o, a = some ⟨g, o, none⟩ ∧ g < w.heap.size ∧ w.cell? ⟨g, o + i, none⟩ = some (.int .u64 (v : Int)) := by
 obtain ⟨hl, e⟩ := List.getElem?_eq_some_iff.1 hi
 subst e
 exact h.2 i hl
theorem bp_nat {pw pd pi pz pc : Int} (h : BpOk pw pd pi pz pc) : ∃ b : Bp, b.p.ok ∧ pw = (b.p.win : Int) ∧ pd = (b.depth : Int) ∧ pi = (b.p.itv : Int) ∧ pz = (b.p.zet : Int) ∧ pc = (b.cap : Int) := by
 obtain ⟨⟨h1, h2, h3, h4, h5⟩, h6, h7, h8, h9⟩ := h
 refine ⟨⟨⟨pw.toNat, pi.toNat, pz.toNat⟩, pd.toNat, pc.toNat⟩, ?_, ?_, ?_, ?_, ?_, ?_⟩
 ·unfold Pr.ok
  dsimp only
  omega
 all_goals dsimp only; omega
theorem edges_le {k : Nat} : ∀ {G : List (List Nat)}, (∀ l ∈ G, l.length ≤ k) → edges G ≤ k * G.length
 | [], _ => Nat.zero_le _
 | l :: G, h => by
  have h1 := h l (List.mem_cons_self ..)
  have h2 := edges_le (G := G) (fun x hx => h x (List.mem_cons_of_mem _ hx))
  have e : edges (l :: G) = l.length + edges G := rfl
  rw [e, List.length_cons, Nat.mul_add, Nat.mul_one]
  omega
set_option maxRecDepth 100000 in
set_option maxHeartbeats 6400000 in
theorem bvback_any (w : World) (hG : GL w) (haw : ∀ W, Below w.heap.size w W → Calls Tryd.prog 29 #[] W fun e w' => e = .returned (.bool true) ∧ Below W.heap.size W w')
  (a0 : Option Addr) (L : List (List Nat)) (cap : Nat) (pw pd pi pz pc : Int) (hL : LLs w a0 L) (_hls : ∀ l ∈ L, l.length < 35184372088832) (_hc : L.length ≤ cap) (_hl : L.length ≤ 4611686018427387903) :
  Calls Tryd.prog 6 #[.slice a0 L.length cap, bpV pw pd pi pz pc] w fun e w' => e = .returned (.bool true) ∧ Below w.heap.size w w' := by
 have GW := Lib.hid hG
 have AW := Lib.hid haw
 have MA := Lib.hid (fun W (k : Below w.heap.size w W) => made_any W a0 L cap (hL.below k))
 have DC := Lib.hid (fun W => dbcheck_any pw pd pi pz pc W)
 have OW := Lib.hid (fun W => bown_any pw pd pi pz pc W)
 obtain ⟨M0, hM0⟩ : ∃ z, L.length = z := ⟨_, rfl⟩
 rw [hM0] at MA ⊢
 unfold bpV at DC OW ⊢
 clear hG haw hL hM0
 go_enter Tryd.func6, Tryd.ntmps6
 go_wp2_with fail
 have k1 : Below w.heap.size w (w.alloc (.cells #[.int .i64 pw, .int .i64 pd, .int .i64 pi, .int .i64 pz, .int .i64 pc] 64)) := (Below.refl _ _).alloc (Nat.le_refl _) _
 have r1 := heap_alloc_new w (.cells #[.int .i64 pw, .int .i64 pd, .int .i64 pi, .int .i64 pz, .int .i64 pc] 64)
 with_reducible refine (MA.out _ k1).mono ?_
 rintro e w2 ⟨ks, V, v, rfl, ⟨hb2, ho2, hk2⟩, hgr⟩
 obtain ⟨a, dg, rfl⟩ := own_shape ho2
 obtain ⟨hn300, hmo⟩ := madeG_ok L
 obtain ⟨G, hG⟩ : ∃ G, madeG L = G := ⟨_, rfl⟩
 rw [hG] at hgr hn300 hmo
 have hVG := hgr.1
 rw [hVG] at ho2 ⊢
 have LG2 := Lib.hid (hgr.lls ho2 (by omega) (fun p hp => (hk2 p hp).1))
 have K2 := Lib.hid (k1.trans (hb2.mono k1.size))
 have P2 := Lib.hid ((hb2.block _ (lt_of_block r1)).trans r1)
 have HMO := Lib.hid hmo
 obtain ⟨pb, hpb⟩ : ∃ z, w.heap.size = z := ⟨_, rfl⟩
 have GL2 := Lib.hid (GW.out.below K2.out)
 have AW2 : Hid (∀ W, Below w2.heap.size w2 W → Calls Tryd.prog 29 #[] W fun e w' => e = .returned (.bool true) ∧ Below W.heap.size W w') := Lib.hid (fun W k => AW.out W (K2.out.trans (k.mono K2.out.size)))
 have FIN : Hid (∀ W, Below w2.heap.size w2 W → Below w.heap.size w W) := Lib.hid (fun W k => K2.out.trans (k.mono K2.out.size))
 have PCL : Hid (∀ W, Below w2.heap.size w2 W → W.cell? ⟨pb, 0, none⟩ = some (.int .i64 pw) ∧ W.cell? ⟨pb, 1, none⟩ = some (.int .i64 pd) ∧ W.cell? ⟨pb, 2, none⟩ = some (.int .i64 pi) ∧ W.cell? ⟨pb, 3, none⟩ = some (.int .i64 pz) ∧ W.cell? ⟨pb, 4, none⟩ = some (.int .i64 pc)) := Lib.hid (fun W k => by
  have h := P2.out
  rw [hpb] at h
  have e2 := (k.block pb (lt_of_block h)).trans h
  exact ⟨by rw [cell_of_row _ _ _ _ _ _ e2]; rfl, by rw [cell_of_row _ _ _ _ _ _ e2]; rfl, by rw [cell_of_row _ _ _ _ _ _ e2]; rfl, by rw [cell_of_row _ _ _ _ _ _ e2]; rfl, by rw [cell_of_row _ _ _ _ _ _ e2]; rfl⟩)
 clear k1 r1 hb2 ho2 hk2 hgr hmo hG P2 MA hVG
 have K0 := Below.refl w2.heap.size w2
 obtain ⟨p0, p1, p2, p3, p4⟩ := PCL.out _ K0
 rw [hpb]
 go_wp2_with fail
 with_reducible refine (DC.out _).mono ?_
 rintro e w3 ⟨rfl, k3⟩
 clear p0 p1 p2 p3 p4 K0 hpb
 by_cases hb : BpOk pw pd pi pz pc
 ·--A
  rw [if_pos hb]
  obtain ⟨b, hbp, rfl, rfl, rfl, rfl, rfl⟩ := bp_nat hb
  have hE9 : edges G ≤ 90000 := by
   have h1 := edges_le (k := 300) (G := G) (fun l hl => (HMO.out l hl).2.1)
   have h2 := Nat.mul_le_mul_left 300 hn300
   omega
  obtain ⟨bits, hbits⟩ : ∃ z, (stB b G).2 = z := ⟨_, rfl⟩
  have hbl : bits.length ≤ 7236000 := by
   have h1 := stB_len hbp G (fun l hl => (HMO.out l hl).1) (by omega) G.length (Nat.le_refl _)
   rw [List.take_length, hbits] at h1
   omega
  obtain ⟨R, hR⟩ := text_back bits
  have HRr := Lib.hid (fun l hl => (HMO.out l hl).1)
  have HVv := Lib.hid (fun l hl => (HMO.out l hl).2.2)
  have EN := Lib.hid (fun K W (h : FS w2 none none K W) => (benc_yes b a G dg h GL2.out hb hbp (SeenG.of K LG2.out) (by omega) HRr.out HVv.out (by omega)).mono (fun e w' h' => h'.fs (by omega)))
  obtain ⟨tx, htx⟩ : ∃ z, txt (packN bits) = z := ⟨_, rfl⟩
  have hts : tx.size = (bits.length + 7) / 8 := by rw [← htx, txt_size, packN_length]
  obtain ⟨n, hn⟩ : ∃ z, G.length = z := ⟨_, rfl⟩
  have HN := Lib.hid hn
  have hn9 : n ≤ 300 := by omega
  obtain ⟨PL, hPL⟩ : ∃ z, atB b G (n + 1) = z := ⟨_, rfl⟩
  have PLn : Hid (PL[n]? = some bits.length ∧ PL.length = n + 1) := Lib.hid ⟨by rw [← hPL, ← hn, ← hbits]; exact atB_get b G, by rw [← hPL]; unfold atB; rw [List.length_map, List.length_range]⟩
  have DE : Hid (∀ rb K W, FS w2 none (some (rb, tx, 0)) K W → Calls Tryd.prog 30 #[.pointer (some ⟨rb, 0, none⟩), .int .i64 (n : Int), .agg #[.int .i64 (b.p.win : Int), .int .i64 (b.depth : Int), .int .i64 (b.p.itv : Int), .int .i64 (b.p.zet : Int), .int .i64 (b.cap : Int)]] W fun e w' =>
    ∃ sg dg sp dp kx, e = .returned (.tuple #[.slice sg n dg, .slice sp (n + 1) dp, .int .i64 0]) ∧ FS w2 none (some (rb, tx, bits.length)) (kx ++ K) w' ∧ StG kx sg G ∧ StU kx sp PL) := Lib.hid (fun rb K W h => by
   have h2 := bdec_any h GL2.out b hb hbp G.length (by omega)
   rw [← htx, hR, ← hbits, readB_back hbp G HRr.out (by omega) HVv.out (by omega) R G.length (Nat.le_refl _), rplaces_back hbp G HRr.out (by omega) HVv.out (by omega) R (G.length + 1) (Nat.le_refl _), List.take_length] at h2
   unfold bpV at h2
   rw [hn] at h2
   refine h2.mono ?_
   rintro e w' ⟨vg, va, kx, sg, dg', sp, dp, rfl, f, hnew, e1, e2, e3, e4, e5, e6⟩
   dsimp only at e1 e2 e3 f
   rw [stB_map] at e3
   rw [stB_length, hn] at e1
   rw [hPL] at e4 e6
   rw [PLn.out.2] at e4
   rw [hbits, htx] at f
   subst e1 e4
   exact ⟨sg, dg', sp, dp, kx, rfl, f, e3, e6⟩)
  have hb2 : BpOk 0 (b.depth : Int) (b.p.itv : Int) (b.p.zet : Int) (b.cap : Int) := ⟨⟨Int.le_refl _, by decide, hb.1.2.2.1, hb.1.2.2.2.1, hb.1.2.2.2.2⟩, hb.2⟩
  have hbp2 : b.plain.p.ok := ⟨Nat.zero_le _, hbp.2.1, hbp.2.2.1, hbp.2.2.2⟩
  have EN2 := Lib.hid (fun K W (h : FS w2 none none K W) => (benc_yes b.plain a G dg h GL2.out hb2 hbp2 (SeenG.of K LG2.out) (by omega) HRr.out HVv.out (by omega)).mono (fun e w' h' => h'.fs (by omega)))
  obtain ⟨bits2, hbits2⟩ : ∃ z, (stB b.plain G).2 = z := ⟨_, rfl⟩
  have hbl2 : bits2.length ≤ 7236000 := by
   have h1 := stB_len hbp2 G HRr.out (by omega) G.length (Nat.le_refl _)
   rw [List.take_length, hbits2] at h1
   omega
  obtain ⟨PL2, hPL2⟩ : ∃ z, atB b.plain G (n + 1) = z := ⟨_, rfl⟩
  have PLn2 : Hid (PL2[n]? = some bits2.length) := Lib.hid (by rw [← hPL2, ← hn, ← hbits2]; exact atB_get b.plain G)
  have PLA : Hid (bits.length ≤ bits2.length + fullN G) := Lib.hid (by
   have h1 := plain_all b G G.length (Nat.le_refl _)
   rw [List.take_length, hbits, hbits2] at h1
   exact h1)
  rw [hn, hPL2] at EN2
  unfold bpV at EN2
  rw [show ((b.plain.p.win : Nat) : Int) = 0 from rfl, show b.plain.p.itv = b.p.itv from rfl, show b.plain.p.zet = b.p.zet from rfl, show b.plain.depth = b.depth from rfl, show b.plain.cap = b.cap from rfl] at EN2
  have OW2 := Lib.hid (fun W => bown_any 0 (b.depth : Int) (b.p.itv : Int) (b.p.zet : Int) (b.cap : Int) W)
  unfold bpV at OW2
  clear hbits2 hPL2 hb2 hbp2
  rw [hbits, htx, hn, hPL] at EN
  rw [hn]
  unfold bpV at EN
  have F3 := Lib.hid ((FS.start w2).next k3)
  have TSZ : Hid (tx.size ≤ 1152921504606846975) := Lib.hid (by omega)
  obtain ⟨p0, p1, p2, p3, p4⟩ := PCL.out _ k3
  clear k3 hbits hR htx hPL hn
  go_wp2_with fail
  with_reducible refine (OW.out _).mono ?_
  rintro e w4 ⟨rfl, k4⟩
  have F4 := Lib.hid (F3.out.next k4)
  clear p0 p1 p2 p3 p4 k4 F3
  go_wp2_with fail
  with_reducible refine (EN.out _ _ F4.out).mono ?_
  rintro e w5 ⟨sa, da, ka, rfl, f5, hda, hsa⟩
  have OP := Lib.hid (f5.open tx TSZ.out)
  have HSA := Lib.hid hsa
  clear f5 hsa EN F4
  go_wp2_with fail
  with_reducible refine OP.out.mono ?_
  rintro e w6 ⟨rb, rfl, f6⟩
  have F6 := Lib.hid f6
  obtain ⟨p0, p1, p2, p3, p4⟩ := PCL.out _ f6.below
  clear f6 OP
  go_wp2_with fail
  with_reducible refine (OW.out _).mono ?_
  rintro e w7 ⟨rfl, k7⟩
  have F7 := Lib.hid (F6.out.next k7)
  clear p0 p1 p2 p3 p4 k7 F6
  go_wp2_with fail
  with_reducible refine (DE.out _ _ _ F7.out).mono ?_
  rintro e w8 ⟨sg, dg2, sp, dp, kx, rfl, f8, hsg, hsp⟩
  have F8 := Lib.hid f8
  have HSG := Lib.hid (And.intro hsg hsp)
  clear f8 hsg hsp F7 DE
  go_upto_region 8 with fail
  have hk8 : ∀ p ∈ kx ++ (ka ++ []), w8.heap[p.1]? = some p.2 := fun p hp => F8.out.row (b := p.1) (o := p.2) hp
  obtain ⟨ga, oa, rfl, hga, hca⟩ := (HSA.out w8 (fun p hp => hk8 p (by simp [hp]))).at_ PLn.out.1
  have ALI : Hid (∀ W, Below w8.heap.size w8 W → Calls Tryd.prog 31 #[.slice sg n dg2, .slice a n dg] W fun e w' => e = .returned (.bool true) ∧ Below W.heap.size W w') := Lib.hid (fun W k => by
   have h := alike_same W sg a G dg2 dg (HSG.out.1 W (fun p hp => by rw [k.block _ (lt_of_block (hk8 p (by simp [hp])))]; exact hk8 p (by simp [hp]))) (LG2.out.below (F8.out.below.trans (k.mono F8.out.below.size)))
   rw [HN.out] at h
   exact h)
  have SAM : Hid (∀ W, Below w8.heap.size w8 W → Calls Tryd.prog 32 #[.slice (some ⟨ga, oa, none⟩) (n + 1) da, .slice sp (n + 1) dp] W fun e w' => e = .returned (.bool true) ∧ Below W.heap.size W w') := Lib.hid (fun W k => by
   have h := usame_any W (some ⟨ga, oa, none⟩) sp PL da dp (HSA.out W (fun p hp => by rw [k.block _ (lt_of_block (hk8 p (by simp [hp])))]; exact hk8 p (by simp [hp]))) (HSG.out.2 W (fun p hp => by rw [k.block _ (lt_of_block (hk8 p (by simp [hp])))]; exact hk8 p (by simp [hp])))
   rw [PLn.out.2] at h
   exact h)
  have ATT := Lib.hid (fun W (k : Below w8.heap.size w8 W) => (F8.out.next k).at_)
  obtain ⟨bl, hbln⟩ : ∃ z, bits.length = z := ⟨_, rfl⟩
  have HBLN := Lib.hid hbln
  rw [hbln] at hca ATT hbl hts
  have MF : Hid (∀ W, Below w8.heap.size w8 W → W.cell? ⟨ga, oa + n, none⟩ = some (.int .u64 (bl : Int)) ∧ Below w8.heap.size w8 W) := Lib.hid (fun W k => ⟨(k.cell hga).trans hca, k⟩)
  have KX := Lib.hid (fun W W' (h : Below w8.heap.size w8 W) (k : Below W.heap.size W W') => h.trans (k.mono h.size))
  have K0 := Below.refl w8.heap.size w8
  have hda2 := hda
  have q1 : ((n : Int) + 1 != (n : Int) + 1) = false := by simp
  have q2 : ((bl : Int) != (bl : Int)) = false := by simp
  have q3 : Int.tdiv ((bl : Int) + 7) 8 = (tx.size : Int) := by rw [Int.tdiv_eq_ediv_of_nonneg (by omega)]; omega
  have q4 : ((tx.size : Int) != (tx.size : Int)) = false := by simp
  have q5 : IntKind.u64.wrap (bl : Int) = (bl : Int) := IntWalk.u64_in _ (by omega)
  have q6 : IntKind.i64.wrap ((n : Int) + 1) = (n : Int) + 1 := IntWalk.i64_in _ (by omega)
  have b0 : (0 : Int) ≤ (n : Int) := Int.natCast_nonneg _
  have b1 : (n : Int) < (n : Int) + 1 := by omega
  have b2 : (n : Int) < ((n + 1 : Nat) : Int) := by omega
  have q8 : IntKind.i64.wrap (tx.size : Int) = (tx.size : Int) := IntWalk.i64_in _ (by omega)
  have q7 : IntKind.i64.wrap ((bl : Int) + 7) = (bl : Int) + 7 := IntWalk.i64_in _ (by omega)
  clear hbln hca hk8 hts
  go_region_held3 (fun W => W.cell? ⟨ga, oa + n, none⟩ = some (.int .u64 (bl : Int)) ∧ Below w8.heap.size w8 W)
   (first | exact MF.out _ (by assumption) | exact MF.out _ (Below.drew (by assumption)))
   (first
    | (go_at_call 31; (with_reducible refine (ALI.out _ (by first | assumption | exact Below.drew (by assumption))).mono ?_); rintro e w11 ⟨rfl, k1⟩; have k7 := (by first | exact KX.out _ _ (by assumption) k1 | exact KX.out _ _ (Below.drew (by assumption)) k1 : Below w8.heap.size w8 w11))
    | (go_at_call 32; (with_reducible refine (SAM.out _ (by first | assumption | exact Below.drew (by assumption))).mono ?_); rintro e w11 ⟨rfl, k1⟩; have k7 := (by first | exact KX.out _ _ (by assumption) k1 | exact KX.out _ _ (Below.drew (by assumption)) k1 : Below w8.heap.size w8 w11))
    | (go_at_call 24; (with_reducible refine (ATT.out _ (by first | assumption | exact Below.drew (by assumption))).mono ?_); rintro e w11 ⟨rfl, rfl⟩))
  have F11 := Lib.hid (F8.out.next k7).dropr
  obtain ⟨p0, p1, p2, p3, p4⟩ := PCL.out _ F11.out.below
  clear q1 q2 q3 q4 q5 q6 b1 b2 q7 q8 k1 k7 K0 MF KX ATT SAM ALI F8 hga
  go_upto_region 12 with fail
  have f12 := F11.out.add #[.int .i64 0, .int .i64 (b.depth : Int), .int .i64 (b.p.itv : Int), .int .i64 (b.p.zet : Int), .int .i64 (b.cap : Int)] 64
  obtain ⟨qb, hqb⟩ : ∃ z, w11.heap.size = z := ⟨_, rfl⟩
  rw [hqb] at f12 ⊢
  generalize World.alloc w11 _ = w12 at f12 ⊢
  have e2 := f12.row (List.mem_cons_self ..)
  clear p0 p1 p2 p3 p4 hqb
  have p0 : w12.cell? ⟨qb, 0, none⟩ = some (.int .i64 0) := by rw [cell_of_row _ _ _ _ _ _ e2]; rfl
  have p1 : w12.cell? ⟨qb, 1, none⟩ = some (.int .i64 (b.depth : Int)) := by rw [cell_of_row _ _ _ _ _ _ e2]; rfl
  have p2 : w12.cell? ⟨qb, 2, none⟩ = some (.int .i64 (b.p.itv : Int)) := by rw [cell_of_row _ _ _ _ _ _ e2]; rfl
  have p3 : w12.cell? ⟨qb, 3, none⟩ = some (.int .i64 (b.p.zet : Int)) := by rw [cell_of_row _ _ _ _ _ _ e2]; rfl
  have p4 : w12.cell? ⟨qb, 4, none⟩ = some (.int .i64 (b.cap : Int)) := by rw [cell_of_row _ _ _ _ _ _ e2]; rfl
  have F12 := Lib.hid f12
  clear e2 f12 F11
  go_wp2_with fail
  with_reducible refine (OW2.out _).mono ?_
  rintro e w13 ⟨rfl, k13⟩
  have F13 := Lib.hid (F12.out.next k13)
  clear p0 p1 p2 p3 p4 k13 F12
  go_wp2_with fail
  with_reducible refine (EN2.out _ _ F13.out).mono ?_
  rintro e w14 ⟨sa2, da2, ka2, rfl, f14, hda3, hsa2⟩
  have K14 := Lib.hid f14.below
  obtain ⟨ga2, oa2, rfl, hga2, hca2⟩ := (hsa2 w14 (fun p hp => f14.row (b := p.1) (o := p.2) (List.mem_append_left _ hp))).at_ PLn2.out
  obtain ⟨ga1, oa1, e1, hga1, hca1⟩ := (HSA.out w14 (fun p hp => f14.row (b := p.1) (o := p.2) (by simp [hp]))).at_ PLn.out.1
  injection e1 with e1
  injection e1 with e1 e3
  subst e1 e3
  have LG14 := Lib.hid (LG2.out.below K14.out)
  obtain ⟨bl2, hbln2⟩ : ∃ z, bits2.length = z := ⟨_, rfl⟩
  rw [hbln2] at hca2 hbl2 PLA
  rw [HBLN.out] at hca1 PLA
  have HC := Lib.hid (And.intro hga2 (And.intro hca2 (And.intro hga1 hca1)))
  obtain ⟨t2, ht2⟩ : ∃ z, txt (packN (stB b.plain G).2) = z := ⟨_, rfl⟩
  rw [ht2]
  clear f14 hsa2 EN2 F13 hga2 hca2 hga1 hca1 hbln2 ht2
  go_wp2_with fail
  go_loopw [19, 20] (fun v19 v20 wr => ∃ i : Nat, v20 = .int .i64 (i : Int) ∧ i ≤ n ∧ v19 = .int .u64 (fullN (G.take i) : Int) ∧ w14 = wr) (fun _ v20 _ => n - (intOf v20).toNat)
  case atStart => exact ⟨0, rfl, Nat.zero_le _, by rw [List.take_zero]; rfl, rfl⟩
  case round =>
   obtain ⟨i, rfl, hin, rfl, rfl⟩ := hrel
   have hf9 : fullN (G.take i) ≤ i := by
    unfold fullN
    refine Nat.le_trans (List.length_filter_le _ _) ?_
    rw [List.length_take]
    omega
   obtain ⟨fl, hfl⟩ : ∃ z, fullN (G.take i) = z := ⟨_, rfl⟩
   have HFL := Lib.hid hfl
   rw [hfl] at hf9 ⊢
   clear hfl
   by_cases hlt : i < n
   ·have hiG : i < G.length := by rw [HN.out]; exact hlt
    have i1 : decide ((i : Int) < (n : Int)) = true := decide_eq_true (by omega)
    obtain ⟨g, o, s, d, rfl, hg, hc, hd, -⟩ := LG14.out.2 i hiG
    have hsn : fullN (G.take (i + 1)) = fl + (if 0 < G[i].length then 1 else 0) := by rw [List.take_succ_eq_append_getElem hiG, fullN_snoc, HFL.out]
    obtain ⟨m, hm⟩ : ∃ z, G[i].length = z := ⟨_, rfl⟩
    rw [hm] at hc hsn
    have HSN := Lib.hid hsn
    clear hsn hm hd
    by_cases h0 : 0 < m
    ·have j1 : decide ((0 : Int) < (m : Int)) = true := decide_eq_true (by omega)
     have j1n : decide (0 < m) = true := decide_eq_true h0
     go_wp2_with fail
     go_roundw
     case rel => exact ⟨i + 1, by go_num, by omega, by rw [HSN.out, if_pos h0]; go_num, trivial⟩
     case measure => simp [intOf]; omega
    ·have j1 : decide ((0 : Int) < (m : Int)) = false := decide_eq_false (by omega)
     have j1n : decide (0 < m) = false := decide_eq_false h0
     go_wp2_with fail
     go_roundw
     case rel => exact ⟨i + 1, by go_num, by omega, by rw [HSN.out, if_neg h0]; go_num, trivial⟩
     case measure => simp [intOf]; omega
   ·have hin2 : i = n := by omega
    have i1 : decide ((i : Int) < (n : Int)) = false := decide_eq_false (by omega)
    have hle : bl ≤ bl2 + fl := by
     have h := PLA.out
     have e : G.take i = G := List.take_of_length_le (by rw [HN.out]; omega)
     have hf := HFL.out
     rw [e] at hf
     omega
    go_upto_region 19 with fail
    obtain ⟨hga2, hca2, hga1, hca1⟩ := HC.out
    have MF : Hid (∀ W, Below w14.heap.size w14 W → W.cell? ⟨ga, oa + n, none⟩ = some (.int .u64 (bl : Int)) ∧ W.cell? ⟨ga2, oa2 + n, none⟩ = some (.int .u64 (bl2 : Int)) ∧ Below w14.heap.size w14 W) := Lib.hid (fun W k => ⟨(k.cell hga1).trans hca1, (k.cell hga2).trans hca2, k⟩)
    have AWT : Hid (∀ W, Below w14.heap.size w14 W → Calls Tryd.prog 29 #[] W fun e w' => e = .returned (.bool true) ∧ Below W.heap.size W w') := Lib.hid (fun W k => AW2.out W (K14.out.trans (k.mono K14.out.size)))
    have KX := Lib.hid (fun W W' (h : Below w14.heap.size w14 W) (k : Below W.heap.size W W') => h.trans (k.mono h.size))
    have K0 := Below.refl w14.heap.size w14
    have b1 : (n : Int) < (n : Int) + 1 := by omega
    have b2 : (n : Int) < ((n + 1 : Nat) : Int) := by omega
    have q5 : IntKind.u64.wrap ((bl2 : Int) + (fl : Int)) = (bl2 : Int) + (fl : Int) := IntWalk.u64_in _ (by omega)
    have q6 : decide ((bl : Int) ≤ (bl2 : Int) + (fl : Int)) = true := decide_eq_true (by omega)
    clear hca2 hca1 hga1 hga2
    go_region_held3 (fun W => W.cell? ⟨ga, oa + n, none⟩ = some (.int .u64 (bl : Int)) ∧ W.cell? ⟨ga2, oa2 + n, none⟩ = some (.int .u64 (bl2 : Int)) ∧ Below w14.heap.size w14 W)
     (first | exact MF.out _ (by assumption) | exact MF.out _ (Below.drew (by assumption)))
     (first
      | (go_at_call 29; (with_reducible refine (AWT.out _ (by first | assumption | exact Below.drew (by assumption))).mono ?_); rintro e w15 ⟨rfl, k1⟩; have k7 := (by first | exact KX.out _ _ (by assumption) k1 | exact KX.out _ _ (Below.drew (by assumption)) k1 : Below w14.heap.size w14 w15)))
    go_wp2_with fail
    go_ret
    exact ⟨rfl, FIN.out _ (K14.out.trans (k7.mono K14.out.size))⟩
 ·--B
  rw [if_neg hb]
  have EN := Lib.hid (fun W => benc_no pw pd pi pz pc hb a G.length dg W)
  unfold bpV at EN
  have K3 := Lib.hid k3
  obtain ⟨p0, p1, p2, p3, p4⟩ := PCL.out _ K3.out
  clear k3
  go_wp2_with fail
  with_reducible refine (OW.out _).mono ?_
  rintro e w4 ⟨rfl, k4⟩
  have K4 := Lib.hid (K3.out.trans (k4.mono K3.out.size))
  clear k4
  go_wp2_with fail
  with_reducible refine (EN.out _).mono ?_
  rintro e w5 ⟨rfl, k5⟩
  have K5 := Lib.hid (K4.out.trans (k5.mono K4.out.size))
  clear k5
  go_wp2_with fail
  with_reducible refine (AW2.out _ K5.out).mono ?_
  rintro e w6 ⟨rfl, k6⟩
  have K6 := Lib.hid (K5.out.trans (k6.mono K5.out.size))
  clear k6
  go_wp2_with fail
  go_ret
  exact ⟨rfl, FIN.out _ K6.out⟩
end Go.Proofs.YtflnpcgnenhogaaDoor.ls
