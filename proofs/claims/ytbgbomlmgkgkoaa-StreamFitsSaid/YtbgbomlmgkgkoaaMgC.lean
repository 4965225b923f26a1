/- stream: a Write that is refused; Close. stream: Close. stream: the document's constructors; made. stream: the plain law of what is read; number; Open; Length. -/
import Derived.Test.YtbgbomlmgkgkoaaMgB
import Derived.Test.YtbgbomlmgkgkoaaMgA
import Derived.Deep.RegionLaw
import Derived.Lib.ConvBytes
import Derived.Laws.BitsLemmas
namespace Go.Proofs.Ytbgbomlmgkgkoaa.st
open Go.RowKit Go.Proofs.Ytbgbomlmgkgkoaa.own Go.Proofs.Ytbgbomlmgkgkoaa.dv Go.Proofs.Ytbgbomlmgkgkoaa.po Go.Proofs.Ytbgbomlmgkgkoaa.arcI

theorem wp_append_k {P : Program} (w : World) {o : Oper} {a : Act} {K : Act → World → Prop} {Q : Exit → Act → World → Prop} {c : Bool} {E : Prop} (hc : c = true) (s x : Operand) (t tx : TypeId)
    (ho : o.op = .call { callee := .builtin .append, args := #[s, x], argTypes := #[t, tx] })
    (base : Nat) (e : TypeId) (i : TypeInfo) (z : Value) (hi : i.size = 1) (hz : i.zero = some z) (hzs : z.cells.size = 1) (hby : i.bytes ≤ 16)
    (v : Value) (n : Nat) (xs : List Value) (hv : a.eval s = v) (hown : w.ownsRow base e 1 v n xs) (u : Value) (m : Nat) (news : List Value) (hx : a.eval x = u) (hs : Go.Proofs.Ytbgbomlmgkgkoaa.ev.SrcK P t tx e i u m news w) (h1 : ∀ y ∈ news, y.oneCell' = true) (hsm : n + m ≤ 1099511627776) (hbase : base ≤ w.heap.size)
    (h : ∀ v' w', w'.ownsRow base e 1 v' (n + m) (xs ++ news) → w.grownBy w' v.ownBlock → (v'.ownBlock = v.ownBlock ∨ v'.ownBlock = some w.heap.size) → w'.ownsRow base e 1 v n xs → K (a.put o.dst v') w') :
    if c = true then Oper.wp P o a w K Q else E := by
  rw [if_pos hc]
  obtain ⟨v', w', hr, h2, h3, h4, h5⟩ := run_append_k (P := P) w base t tx o.type e i z hi hz hzs hby v n xs hown u m news hs h1 hsm hbase
  unfold Oper.wp execOp
  simp only [ho, resolve, invoke, builtin, Sem.run_bind, Sem.run_pure, Result.andThen_ok, List.map_toArray, List.map_cons, List.map_nil, hv, hx, hr]
  exact h v' w' h2 h3 h4 h5

theorem wpList_append_o {P : Program} (w : World) {ops : Array Oper} {rest : List Oper} {o : Oper} {a : Act} {Q : Exit → Act → World → Prop} (hgd : o.guard = none) (s x : Operand) (t tx : TypeId)
    (ho : o.op = .call { callee := .builtin .append, args := #[s, x], argTypes := #[t, tx] })
    (base : Nat) (e : TypeId) (i : TypeInfo) (z : Value) (hi : i.size = 1) (hz : i.zero = some z) (hzs : z.cells.size = 1) (hby : i.bytes ≤ 16)
    (v : Value) (n : Nat) (xs : List Value) (hv : a.eval s = v) (hown : w.ownsRow base e 1 v n xs) (u : Value) (m : Nat) (news : List Value) (hx : a.eval x = u) (hs : Go.Proofs.Ytbgbomlmgkgkoaa.ev.SrcK P t tx e i u m news w) (h1 : ∀ y ∈ news, y.oneCell' = true) (hsm : n + m ≤ 1099511627776) (hbase : base ≤ w.heap.size)
    (h : ∀ v' w', w'.ownsRow base e 1 v' (n + m) (xs ++ news) → w.grownBy w' v.ownBlock → (v'.ownBlock = v.ownBlock ∨ v'.ownBlock = some w.heap.size) → w'.ownsRow base e 1 v n xs → wpList P ops Q rest (a.put o.dst v') w') :
    wpList P ops Q (o :: rest) a w := by
  refine wpList_plain hgd fun K hK => ?_
  obtain ⟨v', w', hr, h2, h3, h4, h5⟩ := run_append_k (P := P) w base t tx o.type e i z hi hz hzs hby v n xs hown u m news hs h1 hsm hbase
  unfold Oper.wp execOp
  simp only [ho, resolve, invoke, builtin, Sem.run_bind, Sem.run_pure, Result.andThen_ok, List.map_toArray, List.map_cons, List.map_nil, hv, hx, hr]
  exact hK _ _ (h v' w' h2 h3 h4 h5)

/-- the row was appended to, and what was there before is in use still -/
theorem WS.grown {x : Nat → Nat} {v0 c0 d0 : Nat} {w : World} {wb sb db eb N m st ln : Nat} {V : Int → ByteArray} {rv : Value} {pb xb qb : Nat} {R : List UInt8} {at_ len : Nat} {sum : Int} {dn : Bool} {wr : World} (h : WS x v0 c0 d0 w wb sb db eb N m st ln V rv pb xb qb R at_ len sum dn wr) {w1 : World} (hg : wr.grownBy w1 rv.ownBlock) (old : w1.ownsRow 0 5 1 rv R.length (bv R)) :
    WS x v0 c0 d0 w wb sb db eb N m st ln V rv pb xb qb R at_ len sum dn w1 := by
  obtain ⟨hv, x', f, i, s⟩ := h
  have hK : Keeps wr w1 (fun b => rv.ownBlock = some b) := (Keeps.refl wr _).grown hg (fun k hk => .inl hk)
  have f1 : Fr x' (paint x' wr.heap.size (v0 + 1)) (fun e => e = v0 + 1) wr w1 := hK.fr rfl (fun b _ e => i.xr b e)
  have l0 := lt_of_block i.h0
  have lp := lt_of_block i.hp
  have lx := lt_of_block i.hx
  have lq := lt_of_block i.hq
  have s1 := s.frame f1 (fun e he hc => hv (v0 + 1) ⟨by omega, by omega⟩ (by rw [← hc]; exact PD_PC c0 d0 _ he))
  exact ⟨hv, _, f.trans (f1.mono (fun e he => .inr ⟨by omega, by omega⟩)), ⟨(f1.old wb l0 (by rw [i.x0]; omega)).trans i.h0, by rw [paint_old l0]; exact i.x0, old, fun b hb => by rw [paint_old (i.row.lt b hb).2]; exact i.xr b hb, (f1.old pb lp (by rw [i.xp]; omega)).trans i.hp, by rw [paint_old lp]; exact i.xp, (f1.old xb lx (by rw [i.xx]; omega)).trans i.hx, by rw [paint_old lx]; exact i.xx, (f1.old qb lq (by rw [i.xq]; omega)).trans i.hq, by rw [paint_old lq]; exact i.xq⟩, s1⟩

/-- what was appended is not the writer's own block -/
theorem WS.apart {x : Nat → Nat} {v0 c0 d0 : Nat} {w : World} {wb sb db eb N m st ln : Nat} {V : Int → ByteArray} {rv : Value} {pb xb qb : Nat} {R : List UInt8} {at_ len : Nat} {sum : Int} {dn : Bool} {wr : World} (h : WS x v0 c0 d0 w wb sb db eb N m st ln V rv pb xb qb R at_ len sum dn wr) {w1 : World} {v1 : Value} {n1 : Nat} {xs : List Value} (own1 : w1.ownsRow 0 5 1 v1 n1 xs) (hw : v1.ownBlock = rv.ownBlock ∨ v1.ownBlock = some wr.heap.size) (o : Nat) (u : Value) : (w1.setCell ⟨wb, o, none⟩ u).ownsRow 0 5 1 v1 n1 xs := by
  obtain ⟨hv, x', f, i, s⟩ := h
  refine own1.kept (grownBy_setCell_at w1 wb o u) (.inr fun e => ?_)
  rcases hw with q | q
  · have a := i.xr wb (by rw [← q]; exact e); rw [i.x0] at a; omega
  · rw [e] at q
    have := Option.some.inj q
    have := lt_of_block i.h0
    omega

set_option maxRecDepth 100000 in
theorem Write_full (x : Nat → Nat) (v0 c0 d0 : Nat) (w : World) (wb sb db eb N m st ln : Nat) (V : Int → ByteArray) (T : List UInt8) (t : ByteArray) (wr : World) (h : WZ x v0 c0 d0 w wb sb db eb N m st ln V T wr) (hm : 1 ≤ m ∧ m ≤ 8)
    (h1 : 1 ≤ ln) (h2 : st + ln ≤ 24) (h3 : T.length ≤ ln * (512 * m) - 12) (h4 : ln * (512 * m) - 12 < T.length + t.size) :
    Calls Try.prog 29 #[.pointer (some ⟨wb, 0, none⟩), .string t] wr fun e w' => e = .returned (.int .i64 3) ∧ WZ x v0 c0 d0 w wb sb db eb N m st ln V T w' := by
  obtain ⟨rv, pb, xb, qb, hw⟩ := h
  have hmp : ln * (512 * m) ≤ 98304 := by have := Nat.mul_le_mul (show ln ≤ 24 by omega) (show 512 * m ≤ 4096 by omega); omega
  have SR := Lib.hid hw
  have RM := Lib.hid (hw.Room h1 (by omega) h3)
  clear hw
  obtain ⟨L, hL⟩ : ∃ L, T.length = L := ⟨_, rfl⟩
  obtain ⟨p, hp⟩ : ∃ p, ln * (512 * m) = p := ⟨_, rfl⟩
  rw [hL, hp] at RM h3 h4
  rw [hp] at hmp
  have g1 : ((p - 12 - L : Nat) : Int) < (t.size : Int) := by omega
  have g2 : p - 12 - L < t.size := by omega
  clear hL hp
  go_enter Try.func29, Try.ntmps29
  go_wp2_with fail
  refine SR.out.ready.mono ?_
  rintro e w1 ⟨rfl, rfl⟩
  go_wp2_with fail
  refine RM.out.mono ?_
  rintro e w1 ⟨rfl, hb1⟩
  have S1 := Lib.hid (SR.out.below hb1)
  clear hb1 SR RM
  go_wp2_with fail
  go_ret
  exact ⟨rfl, _, _, _, _, S1.out⟩

/-- what a stream that was closed has left -/
structure Closed (V : Int → ByteArray) (st ln sz : Nat) (T : List UInt8) : Prop where
  bytes : ∀ i, i < T.length → (V ((st : Int) + ((i / sz : Nat) : Int))).data.toList[i % sz]? = T[i]?
  foot : (V ((st : Int) + (ln : Int) - 1)).data.toList.drop (sz - 12) = bytesN T.length 8 ++ bytesN (onS 0 T).toNat 4

def padN (l : List UInt8) (n : Nat) : List UInt8 := l ++ List.replicate (n - l.length) 0
theorem zeros_cells (n : Nat) : Go.Proofs.Ytbgbomlmgkgkoaa.ev.repeatCells (Go.Proofs.Ytbgbomlmgkgkoaa.ev.vcells (.int .u8 0)) n = bv (List.replicate n 0) := by
  induction n with
  | zero => rfl
  | succ n ih => show Go.Proofs.Ytbgbomlmgkgkoaa.ev.vcells (.int .u8 0) ++ _ = _; rw [ih]; rfl
theorem row_text {W : World} {v : Value} {l : List UInt8} (h : W.ownsRow 0 5 1 v l.length (bv l)) : (convert 72 9 v).run Try.prog W = .ok (.string ⟨l.toArray⟩) W := by
  rcases h.2 with ⟨hv, hz⟩ | ⟨g, cap, cur, hv, _⟩
  · have hp : l = [] := List.eq_nil_of_length_eq_zero hz
    rw [hv, hp]
    exact run_convert_bytes_nil (P := Try.prog) W 72 5 (by kernel_rfl) (by kernel_rfl) 0 0 9 (by kernel_rfl)
  · subst hv
    exact run_convert_bytes_back (P := Try.prog) W 72 9 5 ⟨g, 0, none⟩ cap l (by kernel_rfl) (by kernel_rfl) (by kernel_rfl) (fun j hj => by
      rw [Addr.add_lit, Nat.zero_add, h.cellAt j (by omega)]
      simp [bv, hj])

/-- a stream to which the last block alone is wanting -/
structure Near (V : Int → ByteArray) (st ln sz : Nat) (T R : List UInt8) : Prop where
  le : R.length ≤ sz - 12
  got : ∀ (t : ByteArray) (z : List UInt8), t.data.toList = R ++ z → ∀ i, i < T.length → (if (st : Int) + ((i / sz : Nat) : Int) = (st : Int) + (ln : Int) - 1 then t else V ((st : Int) + ((i / sz : Nat) : Int))).data.toList[i % sz]? = T[i]?

theorem drop_at (T : List UInt8) (sz i : Nat) : (T.drop (i / sz * sz))[i % sz]? = T[i]? := by
  rw [List.getElem?_drop, Nat.mul_comm, Nat.div_add_mod]
theorem ct_at {V : Int → ByteArray} {st sz a : Nat} {T : List UInt8} (h : CT V st sz T a) (hz : 0 < sz) (i : Nat) (hi : i / sz < a) : (V ((st : Int) + ((i / sz : Nat) : Int))).data.toList[i % sz]? = T[i]? := by
  rw [h _ hi, List.getElem?_take, if_pos (Nat.mod_lt _ hz), drop_at]
theorem near_b {V : Int → ByteArray} {st ln sz a : Nat} {T : List UInt8} (h : CT V st sz T a) (ha : T.length / sz = a) (hz : 512 ≤ sz) (h1 : 1 ≤ ln) (h3 : T.length ≤ ln * sz - 12) (hc : a < ln - 1 → T.length - a * sz = 0) : Near V st ln sz T (T.drop (a * sz)) := by
  have hal : a < ln := by rw [← ha]; exact Nat.div_lt_of_lt_mul (by rw [Nat.mul_comm]; have := Nat.mul_le_mul h1 hz; omega)
  have hd : a * sz ≤ T.length := by rw [← ha]; exact Nat.div_mul_le_self _ _
  refine ⟨?_, fun t z ht i hi => ?_⟩
  · rw [List.length_drop]
    by_cases q : a < ln - 1
    · rw [hc q]; exact Nat.zero_le _
    · obtain rfl : ln = a + 1 := by omega
      rw [Nat.add_mul] at h3; omega
  · have hia : i / sz ≤ a := by rw [← ha]; exact Nat.div_le_div_right (Nat.le_of_lt hi)
    by_cases q : i / sz < a
    · rw [if_neg (by omega)]; exact ct_at h (by omega) i q
    · have e : i / sz = a := by omega
      have q2 : ¬ a < ln - 1 := fun q2 => by
        have := hc q2
        have := Nat.div_mul_le_self i sz
        rw [e] at this; omega
      rw [if_pos (by omega), ht, ← e, List.getElem?_append_left, drop_at]
      rw [List.length_drop]
      have := Nat.div_add_mod i sz
      rw [Nat.mul_comm] at this; omega
theorem near_a {V : Int → ByteArray} {st ln sz a : Nat} {T : List UInt8} (h : CT V st sz T a) (ha : T.length / sz = a) (hz : 512 ≤ sz) (hc : a < ln - 1) (t0 : ByteArray) (z : List UInt8) (ht : t0.data.toList = T.drop (a * sz) ++ z) : Near (fun k => if k = (st : Int) + (a : Int) then t0 else V k) st ln sz T [] := by
  refine ⟨Nat.zero_le _, fun t z _ i hi => ?_⟩
  have hia : i / sz ≤ a := by rw [← ha]; exact Nat.div_le_div_right (Nat.le_of_lt hi)
  rw [if_neg (by omega)]
  by_cases q : i / sz < a
  · show (if (st : Int) + ((i / sz : Nat) : Int) = (st : Int) + (a : Int) then t0 else V ((st : Int) + ((i / sz : Nat) : Int))).data.toList[i % sz]? = _
    rw [if_neg (by omega)]; exact ct_at h (by omega) i q
  · have e : i / sz = a := by omega
    show (if (st : Int) + ((i / sz : Nat) : Int) = (st : Int) + (a : Int) then t0 else V ((st : Int) + ((i / sz : Nat) : Int))).data.toList[i % sz]? = _
    rw [if_pos (by omega), ht, ← e, List.getElem?_append_left, drop_at]
    rw [List.length_drop]
    have := Nat.div_add_mod i sz
    rw [Nat.mul_comm] at this; omega

end Go.Proofs.Ytbgbomlmgkgkoaa.st

namespace Go.Proofs.Ytbgbomlmgkgkoaa.st
open Go.RowKit Go.Proofs.Ytbgbomlmgkgkoaa.own Go.Proofs.Ytbgbomlmgkgkoaa.dv Go.Proofs.Ytbgbomlmgkgkoaa.po Go.Proofs.Ytbgbomlmgkgkoaa.arcI

theorem closed_of {V1 : Int → ByteArray} {st ln sz zk : Nat} {T R1 : List UInt8} {tb f8 f4 : ByteArray} (hN : Near V1 st ln sz T R1) (h1 : 1 ≤ ln) (ht : tb.data.toList = R1 ++ List.replicate zk 0) (hz : R1.length + zk = sz - 12) (h8 : f8.data.toList = bytesN T.length 8) (h4 : f4.data.toList = bytesN (onS 0 T).toNat 4) :
    Closed (fun k => if k = (st : Int) + ((ln - 1 : Nat) : Int) then tb ++ f8 ++ f4 else V1 k) st ln sz T := by
  have ev : (st : Int) + ((ln - 1 : Nat) : Int) = (st : Int) + (ln : Int) - 1 := by omega
  have et : (tb ++ f8 ++ f4).data.toList = (R1 ++ List.replicate zk 0) ++ (bytesN T.length 8 ++ bytesN (onS 0 T).toNat 4) := by
    rw [ByteArray.data_append, ByteArray.data_append, Array.toList_append, Array.toList_append, ht, h8, h4, List.append_assoc]
  rw [ev]
  refine ⟨fun i hi => ?_, ?_⟩
  · exact hN.got (tb ++ f8 ++ f4) (List.replicate zk 0 ++ (bytesN T.length 8 ++ bytesN (onS 0 T).toNat 4)) (by rw [et, List.append_assoc]) i hi
  · show (if (st : Int) + (ln : Int) - 1 = (st : Int) + (ln : Int) - 1 then tb ++ f8 ++ f4 else V1 _).data.toList.drop (sz - 12) = _
    rw [if_pos rfl, et]
    exact List.drop_left' (by rw [List.length_append, List.length_replicate, hz])

/-- a writer with a second row of bytes beside its own -/
structure WR2 (x : Nat → Nat) (v0 c0 d0 : Nat) (w : World) (wb sb db eb N m st ln : Nat) (V : Int → ByteArray) (rv : Value) (pb xb qb : Nat) (R : List UInt8) (at_ len : Nat) (sum : Int) (dn : Bool) (v9 : Value) (n9 : Nat) (xs9 : List Value) (wr : World) : Prop where
  hv : ∀ e, VC v0 e → ¬ PC c0 d0 e
  hx : ∃ x', Fr x x' (WC c0 d0 v0) w wr ∧ WI x' v0 wr wb sb st ln rv pb xb qb R at_ len sum dn ∧ SV x' c0 d0 wr sb db eb N m V ∧ wr.ownsRow 0 5 1 v9 n9 xs9 ∧ ∀ b, v9.ownBlock = some b → x' b = v0 + 1
section
variable {x : Nat → Nat} {v0 c0 d0 : Nat} {w : World} {wb sb db eb N m st ln : Nat} {V : Int → ByteArray} {rv : Value} {pb xb qb : Nat} {R : List UInt8} {at_ len : Nat} {sum : Int} {dn : Bool} {v9 : Value} {n9 : Nat} {xs9 : List Value} {wr : World}
theorem WR2.toWS (h : WR2 x v0 c0 d0 w wb sb db eb N m st ln V rv pb xb qb R at_ len sum dn v9 n9 xs9 wr) : WS x v0 c0 d0 w wb sb db eb N m st ln V rv pb xb qb R at_ len sum dn wr := by
  obtain ⟨hv, x', f, i, s, -, -⟩ := h; exact ⟨hv, x', f, i, s⟩
theorem WR2.row (h : WR2 x v0 c0 d0 w wb sb db eb N m st ln V rv pb xb qb R at_ len sum dn v9 n9 xs9 wr) : wr.ownsRow 0 5 1 v9 n9 xs9 := by
  obtain ⟨hv, x', f, i, s, o, -⟩ := h; exact o
theorem WR2.start (h : WS x v0 c0 d0 w wb sb db eb N m st ln V rv pb xb qb R at_ len sum dn wr) {w1 : World} (hg : wr.grownBy w1 rv.ownBlock) (own9 : w1.ownsRow 0 5 1 v9 n9 xs9) (old : w1.ownsRow 0 5 1 rv R.length (bv R)) (hw : v9.ownBlock = rv.ownBlock ∨ v9.ownBlock = some wr.heap.size) :
    WR2 x v0 c0 d0 w wb sb db eb N m st ln V rv pb xb qb R at_ len sum dn v9 n9 xs9 w1 := by
  obtain ⟨hv, x', f, i, s⟩ := h
  have hK : Keeps wr w1 (fun b => rv.ownBlock = some b) := (Keeps.refl wr _).grown hg (fun k hk => .inl hk)
  have f1 : Fr x' (paint x' wr.heap.size (v0 + 1)) (fun e => e = v0 + 1) wr w1 := hK.fr rfl (fun b _ e => i.xr b e)
  have l0 := lt_of_block i.h0
  have lp := lt_of_block i.hp
  have lx := lt_of_block i.hx
  have lq := lt_of_block i.hq
  have s1 := s.frame f1 (fun e he hc => hv (v0 + 1) ⟨by omega, by omega⟩ (by rw [← hc]; exact PD_PC c0 d0 _ he))
  refine ⟨hv, _, f.trans (f1.mono (fun e he => .inr ⟨by omega, by omega⟩)), ⟨(f1.old wb l0 (by rw [i.x0]; omega)).trans i.h0, by rw [paint_old l0]; exact i.x0, old, fun b hb => by rw [paint_old (i.row.lt b hb).2]; exact i.xr b hb, (f1.old pb lp (by rw [i.xp]; omega)).trans i.hp, by rw [paint_old lp]; exact i.xp, (f1.old xb lx (by rw [i.xx]; omega)).trans i.hx, by rw [paint_old lx]; exact i.xx, (f1.old qb lq (by rw [i.xq]; omega)).trans i.hq, by rw [paint_old lq]; exact i.xq⟩, s1, own9, fun b hb => ?_⟩
  rcases hw with e | e
  · rw [hb] at e
    rw [paint_old (i.row.lt b e.symm).2]; exact i.xr b e.symm
  · rw [hb] at e
    have := Option.some.inj e
    exact paint_new (by omega)
theorem WR2.set (h : WR2 x v0 c0 d0 w wb sb db eb N m st ln V rv pb xb qb R at_ len sum dn v9 n9 xs9 wr) (o : Nat) (u : Value) (at' len' : Nat) (sum' : Int) (dn' : Bool) (e : (wrCells sb st ln rv at_ len sum pb xb qb dn).setIfInBounds o u = wrCells sb st ln rv at' len' sum' pb xb qb dn') :
    WR2 x v0 c0 d0 w wb sb db eb N m st ln V rv pb xb qb R at' len' sum' dn' v9 n9 xs9 (wr.setCell ⟨wb, o, none⟩ u) := by
  obtain ⟨hv, x', f, i, s, o9, q9⟩ := h
  have K := i.setAt o u rv R at' len' sum' dn' e i.row i.xr
  exact ⟨hv, x', f.trans (K.1.mono (fun e he => .inr ⟨by omega, by omega⟩)), K.2, s.frame K.1 (fun e he hc => hv v0 ⟨by omega, by omega⟩ (by rw [← hc]; exact PD_PC c0 d0 _ he)), (row_frame K.1 (by omega) o9 q9).1, q9⟩
theorem WR2.below (h : WR2 x v0 c0 d0 w wb sb db eb N m st ln V rv pb xb qb R at_ len sum dn v9 n9 xs9 wr) {wc : World} (hb : Below wr.heap.size wr wc) : WR2 x v0 c0 d0 w wb sb db eb N m st ln V rv pb xb qb R at_ len sum dn v9 n9 xs9 wc := by
  obtain ⟨hv, x', f, i, s, o9, q9⟩ := h
  have f2 : Fr x' (paint x' wr.heap.size (v0 + 1)) (fun e => e = v0 + 1) wr wc := Fr.of_below hb rfl
  have h9 := own_below o9 hb
  refine ⟨hv, paint x' wr.heap.size (v0 + 1), f.trans (f2.mono (fun e he => .inr ⟨by omega, by omega⟩)), ?_, s.frame f2 (fun e he hc => hv (v0 + 1) ⟨by omega, by omega⟩ (by rw [← hc]; exact PD_PC c0 d0 _ he)), h9, fun b hb' => by rw [paint_old (o9.lt b hb').2]; exact q9 b hb'⟩
  have l0 := lt_of_block i.h0
  have lp := lt_of_block i.hp
  have lx := lt_of_block i.hx
  have lq := lt_of_block i.hq
  have i2 := i.below hb
  exact ⟨i2.h0, by rw [paint_old l0]; exact i.x0, i2.row, fun b hb' => by rw [paint_old (i.row.lt b hb').2]; exact i.xr b hb', i2.hp, by rw [paint_old lp]; exact i.xp, i2.hx, by rw [paint_old lx]; exact i.xx, i2.hq, by rw [paint_old lq]; exact i.xq⟩
theorem WR2.put (h : WR2 x v0 c0 d0 w wb sb db eb N m st ln V rv pb xb qb R at_ len sum false v9 n9 xs9 wr) (hcd : c0 + 9 < d0 ∨ d0 + 2 < c0) (ha : st + at_ < 24) {t : ByteArray} (ht : t.size = 512 * m) (hN : N + 8 < 1099511627776) :
    Calls Try.prog 72 #[.string t, .pointer (some ⟨pb, 0, none⟩), .pointer (some ⟨xb, 0, none⟩), .pointer (some ⟨qb, 0, none⟩)] wr fun e w' => e = .returned (.int .i64 0) ∧
      WR2 x v0 c0 d0 w wb sb db eb (N + 8) m st ln (fun k => if k = (st : Int) + (at_ : Int) then t else V k) rv pb xb qb R (at_ + 1) len sum false v9 n9 xs9 w' := by
  obtain ⟨hv, x', f, i, s, o9, q9⟩ := h
  refine (put_any x' v0 c0 d0 wr wb sb db eb N m st ln V rv pb xb qb R at_ len sum t i s hcd hv ha ht hN).mono ?_
  rintro e w' ⟨rfl, x2, f2, i2, s2⟩
  obtain ⟨r1, r2⟩ := row_frame f2 (fun q => q.elim (hv (v0 + 1) ⟨by omega, by omega⟩) (by omega)) o9 q9
  exact ⟨rfl, hv, x2, f.trans (f2.mono (fun e he => he.imp id (fun he => ⟨by omega, by omega⟩))), i2, s2, r1, r2⟩
end

set_option maxRecDepth 100000 in
set_option maxHeartbeats 6400000 in
theorem Close_any (x : Nat → Nat) (v0 c0 d0 : Nat) (w : World) (wb sb db eb N m st ln : Nat) (V : Int → ByteArray) (T : List UInt8) (wr : World) (h : WZ x v0 c0 d0 w wb sb db eb N m st ln V T wr) (hm : 1 ≤ m ∧ m ≤ 8) (hcd : c0 + 9 < d0 ∨ d0 + 2 < c0) (hct : CT V st (512 * m) T (T.length / (512 * m)))
    (h1 : 1 ≤ ln) (h2 : st + ln ≤ 24) (h3 : T.length ≤ ln * (512 * m) - 12) (hN : N + 300 < 1099511627776) :
    Calls Try.prog 30 #[.pointer (some ⟨wb, 0, none⟩)] wr fun e w' => e = .returned (.int .i64 0) ∧
      ∃ V' rv pb xb qb R at_, WS x v0 c0 d0 w wb sb db eb (N + 16) m st ln V' rv pb xb qb R at_ T.length (onS 0 T) true w' ∧ Closed V' st ln (512 * m) T ∧ ∀ k, (k < (st : Int) ∨ (st : Int) + (ln : Int) ≤ k) → V' k = V k := by
  obtain ⟨rv, pb, xb, qb, hw⟩ := h
  have hmp : ln * (512 * m) ≤ 98304 := by have := Nat.mul_le_mul (show ln ≤ 24 by omega) (show 512 * m ≤ 4096 by omega); omega
  have hd0 : T.length / (512 * m) * (512 * m) ≤ T.length := Nat.div_mul_le_self _ _
  obtain ⟨i0, hi, hz0, hz1, hz2⟩ := info_parts Try.infoByte9
  have hus : U32 (onS 0 T) := notU_U32 (onF_U32 T (notU_U32 ⟨by decide, by decide⟩))
  obtain ⟨a, ha⟩ : ∃ a, T.length / (512 * m) = a := ⟨_, rfl⟩
  obtain ⟨sz, hsz⟩ : ∃ sz, 512 * m = sz := ⟨_, rfl⟩
  have hsz1 : 512 ≤ sz ∧ sz ≤ 4096 := by omega
  have hlr : T.length - a * sz < sz := by
    have q := Nat.lt_div_mul_add (a := T.length) (b := 512 * m) (by omega)
    rw [ha, hsz] at q; omega
  have HSZ := Lib.hid hsz
  have HA := Lib.hid ha
  have SR := Lib.hid hw
  rw [ha] at SR hct hd0
  rw [hsz] at SR hct hd0 h3 hmp ⊢
  rw [hsz] at HA
  have HCT := Lib.hid hct
  have hszi : ((512 * m : Nat) : Int) = (sz : Int) := by rw [hsz]
  have SZ := Lib.hid SR.out.Size
  rw [hszi] at SZ
  obtain ⟨rl, hrl⟩ : ∃ rl, (T.drop (a * sz)).length = rl := ⟨_, rfl⟩
  have hrl2 : rl = T.length - a * sz := by rw [← hrl, List.length_drop]
  have hal : a < ln := by
    rw [← ha]; exact Nat.div_lt_of_lt_mul (by rw [hsz, Nat.mul_comm]; have := Nat.mul_le_mul h1 hsz1.1; omega)
  have hrs : rl < sz := by omega
  have HRL := Lib.hid hrl
  have HRL2 := Lib.hid hrl2
  have HCF : Hid (U32 (onS 0 T)) := Lib.hid hus
  clear hw hct ha hsz hszi hrl hrl2 hlr hus hd0
  go_enter Try.func30, Try.ntmps30
  go_wp2_with fail
  refine SR.out.ready.mono ?_
  rintro e w1 ⟨rfl, rfl⟩
  obtain ⟨c0', -, c2', c3', c4', -⟩ := SR.out.cells
  have row := SR.out.row
  rw [HRL.out] at row
  obtain ⟨ra, rc, hrv⟩ := own_shape row
  subst hrv
  clear row
  go_upto_region 4 with fail
  go_wp2_with fail
  refine SZ.out.mono ?_
  rintro e w1 ⟨rfl, rfl⟩
  have e1 : IntKind.i64.wrap ((ln : Int) - 1) = (ln : Int) - 1 := IntWalk.i64_in _ (by omega)
  go_upto_region 5 with fail
  obtain ⟨t1, ht1⟩ : ∃ t1, decide ((a : Int) < (ln : Int) - 1) = t1 := ⟨_, rfl⟩
  obtain ⟨t2, ht2⟩ : ∃ t2, decide (0 < rl) = t2 := ⟨_, rfl⟩
  have HT1 := Lib.hid ht1
  have HT2 := Lib.hid ht2
  clear ht1 ht2
  go_cut [38] from 19 to 38 (fun s38 wc => s38 = .bool (t1 && t2) ∧ Below wr.heap.size wr wc)
  case first => as_aux_lemma =>
    have ht1 := HT1.out
    have ht2 := HT2.out
    cases t1 <;> cases t2
    all_goals
      go_quiet (fail)
      go_wp2_with fail
      go_meet
      case rel => exact ⟨by first | rfl | (rw [ht2]; rfl), ⟨rfl, rfl, rfl, Nat.le_refl _, fun _ _ => rfl⟩⟩
  case rest => as_aux_lemma =>
    obtain ⟨rfl, hbc⟩ := hcut
    have S2 := Lib.hid (SR.out.below hbc)
    clear c0' c2' c3' c4' SR hbc SZ
    go_upto_if 38 with (fail)
    go_cut [5] from 38 to 62 (fun s5 wd => ∃ V1 rv1 R1 a1, WS x v0 c0 d0 w wb sb db eb (N + 8) m st ln V1 rv1 pb xb qb R1 a1 T.length (onS 0 T) false wd ∧ Near V1 st ln sz T R1 ∧ ∀ k, (k < (st : Int) ∨ (st : Int) + (ln : Int) ≤ k) → V1 k = V k)
    case first => as_aux_lemma =>
      by_cases ht : (t1 && t2) = true
      · have ha1 : a < ln - 1 := by
          have q : t1 = true := by cases t1 <;> simp_all
          have q2 := HT1.out
          rw [q] at q2
          have q3 := of_decide_eq_true q2
          omega
        have hr1 : 0 < rl := by
          have q : t2 = true := by cases t2 <;> simp_all
          have q2 := HT2.out
          rw [q] at q2
          exact of_decide_eq_true q2
        rw [ht]
        clear HT1 HT2 ht
        obtain ⟨R, hR⟩ : ∃ R, T.drop (a * sz) = R := ⟨_, rfl⟩
        have HR := Lib.hid hR
        have hrlR : R.length = rl := by rw [← hR]; exact HRL.out
        rw [hR] at S2
        have row := S2.out.row
        rw [hrlR] at row
        have HRLR := Lib.hid hrlR
        obtain ⟨zk, hzk⟩ : ∃ zk, sz - rl = zk := ⟨_, rfl⟩
        have e3 : IntKind.i64.wrap ((sz : Int) - (rl : Int)) = (zk : Int) := by rw [IntWalk.i64_in _ (by omega)]; omega
        have hzk2 : zk ≤ 4096 := by omega
        have HZK : Hid (rl + zk = sz) := Lib.hid (by omega)
        have ROW : Hid (∀ W, Below wc.heap.size wc W → W.ownsRow 0 5 1 (.slice ra rl rc) rl (bv R)) := Lib.hid (fun W hb => own_below row hb)
        have SK : Hid (∀ W, Go.Proofs.Ytbgbomlmgkgkoaa.ev.SrcK Try.prog 72 3 5 i0 (.int .i64 (zk : Int)) zk (bv (List.replicate zk 0)) W) := Lib.hid (fun W => by
          rw [← zeros_cells]
          exact Go.Proofs.Ytbgbomlmgkgkoaa.ev.SrcK.ofZeros Try.underlying72 Try.underlying3 hi hz0 (by rw [hz1]; decide) (by rw [hz1]; rfl) (by rw [zeros_cells]; exact bv_one _) (by omega) (by rw [hz2]; omega))
        obtain ⟨tk, htk⟩ : ∃ tk : ByteArray, tk = ⟨(R ++ List.replicate zk 0).toArray⟩ := ⟨_, rfl⟩
        have HTK : Hid (tk.data.toList = R ++ List.replicate zk 0) := Lib.hid (by rw [htk])
        have hN8 : N + 8 < 1099511627776 := by omega
        have SA : Hid (∀ W, Below wc.heap.size wc W → ∀ v9 w9, w9.ownsRow 0 5 1 v9 (rl + zk) (bv R ++ bv (List.replicate zk 0)) → W.grownBy w9 (Value.slice ra rl rc).ownBlock → w9.ownsRow 0 5 1 (.slice ra rl rc) rl (bv R) →
            WS x v0 c0 d0 w wb sb db eb N m st ln V (.slice ra rl rc) pb xb qb R a T.length (onS 0 T) false w9 ∧ (convert 72 9 v9).run Try.prog w9 = .ok (.string tk) w9) := Lib.hid (fun W hb v9 w9 own9 hg9 old9 => ⟨(S2.out.below hb).grown (R := R) hg9 (by rw [HRLR.out]; exact old9), by rw [htk]; exact row_text (by rw [bv_append] at own9; rw [List.length_append, List.length_replicate, HRLR.out]; exact own9)⟩)
        have haln : st + a < 24 := by omega
        have TSZ : Hid (tk.size = 512 * m) := Lib.hid (by
          rw [htk]
          show (R ++ List.replicate zk 0).toArray.size = _
          rw [List.size_toArray, List.length_append, List.length_replicate, HRLR.out, HZK.out, HSZ.out])
        obtain ⟨-, -, -, c3, -, -, -, c7, -⟩ := S2.out.cells
        clear hR hrlR row hzk htk
        go_upto_region 6 with fail
        refine wp_region_held_drew (S := (fun w' => w'.cell? ⟨wb, 3, none⟩ = some (.slice ra rl rc) ∧ w'.cell? ⟨wb, 7, none⟩ = some (.func (.func 72) #[] #[.pointer (some ⟨pb, 0, none⟩), .pointer (some ⟨xb, 0, none⟩), .pointer (some ⟨qb, 0, none⟩)]))) (by kernel_rfl) ?_ (fun hHeld => ?_)
        · exact ⟨c3, c7⟩
        refine wpAnyH_take (i := 0) (v := ?_) rfl (by kernel_rfl) (by kernel_rfl) (by kernel_rfl) (fun _ _ _ h => h) (Or.inl ⟨by rfl, ?_⟩) (by assumption) ?_
        rotate_left
        · intro w hSw; (try dsimp only at hSw); go_simp; (try with_reducible rfl)
        try simp only [Act.put, List.setIfInBounds_toArray, List.set_cons_zero, List.set_cons_succ, List.getElem_toArray, List.getElem_cons_zero]
        refine wpAnyH_take (i := 1) (v := ?_) rfl (by kernel_rfl) (by kernel_rfl) (by kernel_rfl) (fun _ _ _ h => h) (Or.inl ⟨by rfl, ?_⟩) (by assumption) ?_
        rotate_left
        · intro w hSw; (try dsimp only at hSw); go_simp; (try with_reducible rfl)
        try simp only [Act.put, List.setIfInBounds_toArray, List.set_cons_zero, List.set_cons_succ, List.getElem_toArray, List.getElem_cons_zero, List.getElem_cons_succ]
        refine wpAnyH_take (i := 2) (v := ?_) rfl (by kernel_rfl) (by kernel_rfl) (by kernel_rfl) (fun _ _ _ h => h) (Or.inl ⟨by rfl, ?_⟩) (by assumption) ?_
        rotate_left
        · intro w hSw; (try dsimp only at hSw); go_simp; (try with_reducible rfl)
        try simp only [Act.put, List.setIfInBounds_toArray, List.set_cons_zero, List.set_cons_succ, List.getElem_toArray, List.getElem_cons_zero, List.getElem_cons_succ]
        refine wpAnyH_take (i := 3) (v := ?_) rfl (by kernel_rfl) (by kernel_rfl) (by kernel_rfl) (fun _ _ _ h => h) (Or.inl ⟨by rfl, ?_⟩) (by assumption) ?_
        rotate_left
        · intro w hSw; (try dsimp only at hSw); go_simp; (try with_reducible rfl)
        try simp only [Act.put, List.setIfInBounds_toArray, List.set_cons_zero, List.set_cons_succ, List.getElem_toArray, List.getElem_cons_zero, List.getElem_cons_succ]
        refine wpAnyH_take (i := 4) (v := ?_) rfl (by kernel_rfl) (by kernel_rfl) (by kernel_rfl) (fun _ _ _ h => h) (Or.inl ⟨by rfl, ?_⟩) (by assumption) ?_
        rotate_left
        · intro w hSw; (try dsimp only at hSw); go_simp; (try with_reducible rfl)
        try simp only [Act.put, List.setIfInBounds_toArray, List.set_cons_zero, List.set_cons_succ, List.getElem_toArray, List.getElem_cons_zero, List.getElem_cons_succ]
        refine wpAnyH_take (i := 5) (v := ?_) rfl (by kernel_rfl) (by kernel_rfl) (by kernel_rfl) (fun _ _ _ h => h) (Or.inl ⟨by rfl, ?_⟩) (by assumption) ?_
        rotate_left
        · intro w hSw; (try dsimp only at hSw); go_simp; (try with_reducible rfl)
        try simp only [Act.put, List.setIfInBounds_toArray, List.set_cons_zero, List.set_cons_succ, List.getElem_toArray, List.getElem_cons_zero, List.getElem_cons_succ]
        refine wpAnyH_take (i := 6) (v := ?_) rfl (by kernel_rfl) (by kernel_rfl) (by kernel_rfl) (fun _ _ _ h => h) (Or.inl ⟨by rfl, ?_⟩) (by assumption) ?_
        rotate_left
        · intro w hSw; (try dsimp only at hSw); go_simp; (try with_reducible rfl)
        try simp only [Act.put, List.setIfInBounds_toArray, List.set_cons_zero, List.set_cons_succ, List.getElem_toArray, List.getElem_cons_zero, List.getElem_cons_succ]
        refine wpAnyH_take (i := 7) (v := ?_) rfl (by kernel_rfl) (by kernel_rfl) (by kernel_rfl) (fun _ _ _ h => h) (Or.inl ⟨by rfl, ?_⟩) (by assumption) ?_
        rotate_left
        · intro w hSw; (try dsimp only at hSw); go_simp; (try with_reducible rfl)
        try simp only [Act.put, List.setIfInBounds_toArray, List.set_cons_zero, List.set_cons_succ, List.getElem_toArray, List.getElem_cons_zero, List.getElem_cons_succ]
        refine wpAnyH_take (i := 8) (v := ?_) rfl (by kernel_rfl) (by kernel_rfl) (by kernel_rfl) (fun _ _ _ h => h) (Or.inl ⟨by rfl, ?_⟩) (by assumption) ?_
        rotate_left
        · intro w hSw; (try dsimp only at hSw); go_simp; (try with_reducible rfl)
        try simp only [Act.put, List.setIfInBounds_toArray, List.set_cons_zero, List.set_cons_succ, List.getElem_toArray, List.getElem_cons_zero, List.getElem_cons_succ]
        refine wpAnyH_take (i := 9) (v := ?_) rfl (by kernel_rfl) (by kernel_rfl) (by kernel_rfl) (fun _ _ _ h => h) (Or.inl ⟨by rfl, ?_⟩) (by assumption) ?_
        rotate_left
        · intro w hSw; (try dsimp only at hSw); go_simp; (try with_reducible rfl)
        try simp only [Act.put, List.setIfInBounds_toArray, List.set_cons_zero, List.set_cons_succ, List.getElem_toArray, List.getElem_cons_zero, List.getElem_cons_succ]
        refine wpAnyH_take (i := 10) (v := ?_) rfl (by kernel_rfl) (by kernel_rfl) (by kernel_rfl) (fun _ _ _ h => h) (Or.inl ⟨by rfl, ?_⟩) (by assumption) ?_
        rotate_left
        · intro w hSw; (try dsimp only at hSw); go_simp; (try with_reducible rfl)
        try simp only [Act.put, List.setIfInBounds_toArray, List.set_cons_zero, List.set_cons_succ, List.getElem_toArray, List.getElem_cons_zero, List.getElem_cons_succ]
        refine wpAnyH_take (i := 11) (v := ?_) rfl (by kernel_rfl) (by kernel_rfl) (by kernel_rfl) (fun _ _ _ h => h) (Or.inl ⟨by rfl, ?_⟩) (by assumption) ?_
        rotate_left
        · intro w hSw; (try dsimp only at hSw); go_simp; (try with_reducible rfl)
        try simp only [Act.put, List.setIfInBounds_toArray, List.set_cons_zero, List.set_cons_succ, List.getElem_toArray, List.getElem_cons_zero, List.getElem_cons_succ]
        refine wpAnyH_take (i := 12) (v := ?_) rfl (by kernel_rfl) (by kernel_rfl) (by kernel_rfl) (fun _ _ _ h => h) (Or.inl ⟨by rfl, ?_⟩) (by assumption) ?_
        rotate_left
        · intro w hSw; (try dsimp only at hSw); go_simp; (try with_reducible rfl)
        try simp only [Act.put, List.setIfInBounds_toArray, List.set_cons_zero, List.set_cons_succ, List.getElem_toArray, List.getElem_cons_zero, List.getElem_cons_succ]
        refine wpAnyH_take (i := 13) (v := ?_) rfl (by kernel_rfl) (by kernel_rfl) (by kernel_rfl) (fun _ _ _ h => h) (Or.inl ⟨by rfl, ?_⟩) (by assumption) ?_
        rotate_left
        · intro w hSw; (try dsimp only at hSw); go_simp; (try with_reducible rfl)
        try simp only [Act.put, List.setIfInBounds_toArray, List.set_cons_zero, List.set_cons_succ, List.getElem_toArray, List.getElem_cons_zero, List.getElem_cons_succ]
        refine wpAnyH_take (i := 14) (v := ?_) rfl (by kernel_rfl) (by kernel_rfl) (by kernel_rfl) (fun _ _ _ h => h) (Or.inl ⟨by rfl, ?_⟩) (by assumption) ?_
        rotate_left
        · intro w hSw; (try dsimp only at hSw); go_simp; (try with_reducible rfl)
        try simp only [Act.put, List.setIfInBounds_toArray, List.set_cons_zero, List.set_cons_succ, List.getElem_toArray, List.getElem_cons_zero, List.getElem_cons_succ]
        refine wpAnyH_ready (rs := [15]) (by kernel_rfl) (by simp) ?_
        refine AllReadyH.cons rfl (fun K hK => ?_) AllReadyH.nil
        refine wp_append_k _ (by rfl) _ _ 72 3 (by rfl) 0 5 i0 _ hz1 hz0 rfl (by omega) (.slice ra rl rc) rl (bv R) (by rfl) (ROW.out _ (Below.refl _ _).drew) _ zk _ (by rfl) (SK.out _) (bv_one _) (by omega) (Nat.zero_le _) ?_
        intro v9 w9 own9 hg9 hw9 old9
        have S9 := Lib.hid (SA.out _ (Below.refl _ _).drew v9 w9 own9 hg9 old9)
        have hcv := S9.out.2
        refine hK.out _ _ ?_ (fun hHeld2 => ?_)
        · obtain ⟨-, -, -, q3, -, -, -, q7, -⟩ := S9.out.1.cells
          exact ⟨q3, q7⟩
        clear hK K hHeld own9 hg9 hw9 old9
        try simp only [Act.put, List.setIfInBounds_toArray, List.set_cons_zero, List.set_cons_succ, List.getElem_toArray, List.getElem_cons_zero, List.getElem_cons_succ]
        refine wpAnyH_ready (rs := [16]) (by kernel_rfl) (by simp) ?_
        refine AllReadyH.cons rfl (fun K hK => ?_) AllReadyH.nil
        go_simp
        refine hK.out _ _ ?_ (fun hHeld3 => ?_)
        · exact hHeld2
        clear hK K hHeld2
        try simp only [Act.put, List.setIfInBounds_toArray, List.set_cons_zero, List.set_cons_succ, List.getElem_toArray, List.getElem_cons_zero, List.getElem_cons_succ]
        refine wpAnyH_ready (rs := [17]) (by kernel_rfl) (by simp) ?_
        refine AllReadyH.cons rfl (fun K hK => ?_) AllReadyH.nil
        go_simp
        with_reducible refine Calls.mono (S9.out.1.put hcd haln TSZ.out hN8) ?_
        rintro e w8 ⟨rfl, s8⟩
        have S8 := Lib.hid s8
        clear s8 hcv S9
        go_wp2_with fail
        refine hK.out _ _ ?_ (fun hHeld4 => ?_)
        · obtain ⟨-, -, -, q3, -, -, -, q7, -⟩ := S8.out.cells
          exact ⟨q3, q7⟩
        clear hK K hHeld3
        try simp only [Act.put, List.setIfInBounds_toArray, List.set_cons_zero, List.set_cons_succ, List.getElem_toArray, List.getElem_cons_zero, List.getElem_cons_succ]
        refine wpAnyH_take (i := 18) (v := ?_) rfl (by kernel_rfl) (by kernel_rfl) (by kernel_rfl) (fun _ _ _ h => h) (Or.inl ⟨by rfl, ?_⟩) (by assumption) ?_
        rotate_left
        · intro w hSw; (try dsimp only at hSw); go_simp; (try with_reducible rfl)
        try simp only [Act.put, List.setIfInBounds_toArray, List.set_cons_zero, List.set_cons_succ, List.getElem_toArray, List.getElem_cons_zero, List.getElem_cons_succ]
        refine wpAnyH_done (by kernel_rfl) ?_ _
        obtain ⟨-, -, -, c3, -, -, -, -, -, cf, -⟩ := S8.out.cells
        have f3 := cf 3
        clear cf
        have FIN : Hid (∃ V1 rv1 R1 a1, WS x v0 c0 d0 w wb sb db eb (N + 8) m st ln V1 rv1 pb xb qb R1 a1 T.length (onS 0 T) false (w8.setCell ⟨wb, 3, none⟩ (.slice none 0 0)) ∧ Near V1 st ln sz T R1 ∧ ∀ k, (k < (st : Int) ∨ (st : Int) + (ln : Int) ≤ k) → V1 k = V k) := Lib.hid ⟨_, _, [], a + 1, S8.out.rest (R1 := []) (row := none) (.inr rfl) ⟨rfl, rfl, rfl, Nat.le_refl _, fun _ _ _ => rfl⟩ (World.ownsRow_nil _ _ _ _) (.inl rfl), near_a HCT.out HA.out hsz1.1 ha1 _ (List.replicate zk 0) (by rw [HR.out]; exact HTK.out), fun k hk => if_neg (by omega)⟩
        clear S8
        go_wp2_with fail
        go_meet
        case rel => exact FIN.out
      · rw [Bool.not_eq_true] at ht
        have NB : Hid (Near V st ln sz T (T.drop (a * sz))) := Lib.hid (near_b HCT.out HA.out hsz1.1 h1 h3 (fun hq => by
          have q1 := HT1.out
          have q2 := HT2.out
          have q3 : t1 = true := by rw [← q1]; exact decide_eq_true (by omega)
          rw [q3] at ht
          have q4 : t2 = false := ht
          rw [q4] at q2
          have q5 := of_decide_eq_false q2
          have := HRL2.out
          omega))
        rw [ht]
        clear HT1 HT2 ht
        go_wp2_with fail
        go_meet
        case rel => exact ⟨V, _, _, _, S2.out.mono (by omega), NB.out, fun _ _ => rfl⟩
    case rest => as_aux_lemma =>
      obtain ⟨V1, rv1, R1, a1, hS, hN1, hO1⟩ := hcut
      have S3 := Lib.hid hS
      have NE := Lib.hid hN1
      have OU := Lib.hid hO1
      have hle := hN1.le
      obtain ⟨sn, hsn⟩ : ∃ sn : Nat, onS 0 T = (sn : Int) := ⟨(onS 0 T).toNat, by have := HCF.out.1; omega⟩
      have hsnl : sn < 4294967296 := by have := HCF.out.2; omega
      have HSN := Lib.hid hsn
      rw [hsn] at S3
      obtain ⟨L, hL⟩ : ∃ L, T.length = L := ⟨_, rfl⟩
      rw [hL] at S3 h3
      have HL := Lib.hid hL
      obtain ⟨r1, hr1⟩ : ∃ r1, R1.length = r1 := ⟨_, rfl⟩
      have HR1 := Lib.hid hr1
      rw [hr1] at hle
      clear hS hN1 hO1 hsn hL HCF S2 HRL HRL2 hrs HT1 HT2
      have row := S3.out.row
      rw [hr1] at row
      obtain ⟨ra1, rc1, hrv⟩ := own_shape row
      subst hrv
      obtain ⟨zk, hzk⟩ : ∃ zk, sz - 12 - r1 = zk := ⟨_, rfl⟩
      have e2 : IntKind.i64.wrap ((sz : Int) - 12) = (sz : Int) - 12 := IntWalk.i64_in _ (by omega)
      have e3 : IntKind.i64.wrap ((sz : Int) - 12 - (r1 : Int)) = (zk : Int) := by rw [IntWalk.i64_in _ (by omega)]; omega
      have hzk2 : zk ≤ 4096 := by omega
      have HZK : Hid (r1 + zk = sz - 12) := Lib.hid (by omega)
      have hrz : r1 + zk ≤ 1099511627776 := by omega
      have ROW : Hid (∀ W, Below wc.heap.size wc W → W.ownsRow 0 5 1 (.slice ra1 r1 rc1) r1 (bv R1)) := Lib.hid (fun W hb => own_below row hb)
      have SK : Hid (∀ W, Go.Proofs.Ytbgbomlmgkgkoaa.ev.SrcK Try.prog 72 3 5 i0 (.int .i64 (zk : Int)) zk (bv (List.replicate zk 0)) W) := Lib.hid (fun W => by
        rw [← zeros_cells]
        exact Go.Proofs.Ytbgbomlmgkgkoaa.ev.SrcK.ofZeros Try.underlying72 Try.underlying3 hi hz0 (by rw [hz1]; decide) (by rw [hz1]; rfl) (by rw [zeros_cells]; exact bv_one _) (by omega) (by rw [hz2]; omega))
      clear row hzk hr1
      obtain ⟨-, -, -, c3, -⟩ := S3.out.cells
      go_upto_region 10 with fail
      refine wp_region_still_tail 12 (by kernel_rfl) (by kernel_rfl) ?_
      simp only [List.take_succ_cons, List.take_zero, List.drop_succ_cons, List.drop_zero]
      have W4B : Hid (Below wc.heap.size wc ({ wc with drawn := wc.drawn + 1 } : World)) := Lib.hid ⟨rfl, rfl, rfl, Nat.le_refl _, fun _ _ => rfl⟩
      have c3 : ({ wc with drawn := wc.drawn + 1 } : World).cell? ⟨wb, 3, none⟩ = some (.slice ra1 r1 rc1) := c3
      generalize ({ wc with drawn := wc.drawn + 1 } : World) = W4 at W4B c3 ⊢
      repeat still_step
      refine wpStill_nil ?_
      go_wp2_with (at_builtin; refine wpList_append_o _ rfl _ _ 72 3 rfl 0 5 i0 _ hz1 hz0 rfl (by omega) (.slice ra1 r1 rc1) r1 (bv R1) rfl (ROW.out _ W4B.out) _ zk _ rfl (SK.out _) (bv_one _) hrz (Nat.zero_le _) ?_)
      intro v9 w9 own9 hg9 hw9 old9
      obtain ⟨tb, htb⟩ : ∃ tb : ByteArray, tb = ⟨(R1 ++ List.replicate zk 0).toArray⟩ := ⟨_, rfl⟩
      have HTB : Hid (tb.data.toList = R1 ++ List.replicate zk 0) := Lib.hid (by rw [htb])
      have hl1 : ((ln : Int) - 1) = ((ln - 1 : Nat) : Int) := by omega
      have S4 := Lib.hid (S3.out.below W4B.out)
      have S9 := Lib.hid (S4.out.grown (R := R1) hg9 (by rw [HR1.out]; exact old9))
      have S10 := Lib.hid ((WR2.start (R := R1) S4.out hg9 own9 (by rw [HR1.out]; exact old9) hw9).set 4 (.int .i64 ((ln : Int) - 1)) (ln - 1) L (sn : Int) false (by rw [hl1]; rfl))
      have CV : Hid (∀ W, W.ownsRow 0 5 1 v9 (r1 + zk) (bv R1 ++ bv (List.replicate zk 0)) → (convert 72 9 v9).run Try.prog W = .ok (.string tb) W) := Lib.hid (fun W o1 => by
        rw [htb]
        exact row_text (by rw [bv_append] at o1; rw [List.length_append, List.length_replicate, HR1.out]; exact o1))
      obtain ⟨a9, p9, hv9⟩ := own_shape own9
      subst hv9
      obtain ⟨-, -, c2, -, c4, -, -, -, -, cf, -⟩ := S9.out.cells
      have f4 := cf 4
      have HL1 := Lib.hid hl1
      clear own9 hg9 hw9 old9 htb S3 S4 S9 cf c3 hl1
      go_upto_region 12 with fail
      generalize w9.setCell ⟨wb, 4, none⟩ _ = W5 at S10 CV ⊢
      clear c2 c4 f4
      obtain ⟨f8, hf8⟩ : ∃ f8 : ByteArray, f8 = ⟨(bytesN L 8).toArray⟩ := ⟨_, rfl⟩
      obtain ⟨f4, hf4⟩ : ∃ f4 : ByteArray, f4 = ⟨(bytesN sn 4).toArray⟩ := ⟨_, rfl⟩
      have HF8 : Hid (f8.data.toList = bytesN L 8) := Lib.hid (by rw [hf8])
      have HF4 : Hid (f4.data.toList = bytesN sn 4) := Lib.hid (by rw [hf4])
      have FX8 := Lib.hid (fun W => fixed_any W L 8 (by decide))
      have FX4 := Lib.hid (fun W => fixed_any W sn 4 (by decide))
      rw [← hf8] at FX8
      rw [← hf4] at FX4
      have e5 : IntKind.u64.wrap (L : Int) = (L : Int) := IntWalk.u64_in _ (by omega)
      have e6 : IntKind.u64.wrap (sn : Int) = (sn : Int) := IntWalk.u64_in _ (by omega)
      have TSZ : Hid ((tb ++ f8 ++ f4).size = 512 * m) := Lib.hid (by
        have q : (tb ++ f8 ++ f4).data.toList.length = (tb ++ f8 ++ f4).size := by rw [Array.length_toList]; rfl
        rw [← q, ByteArray.data_append, ByteArray.data_append, Array.toList_append, Array.toList_append, HTB.out, HF8.out, HF4.out]
        simp only [List.length_append, List.length_replicate, bytesN_len, HR1.out]
        have := HZK.out
        rw [HSZ.out]; omega)
      have hst : st + (ln - 1) < 24 := by omega
      have hN16 : N + 8 + 8 < 1099511627776 := by omega
      have KC : Hid (∀ W, Below W5.heap.size W5 W → W.cell? ⟨wb, 5, none⟩ = some (.int .i64 (L : Int)) ∧ W.cell? ⟨wb, 6, none⟩ = some (.int .u32 (sn : Int)) ∧ W.cell? ⟨wb, 7, none⟩ = some (.func (.func 72) #[] #[.pointer (some ⟨pb, 0, none⟩), .pointer (some ⟨xb, 0, none⟩), .pointer (some ⟨qb, 0, none⟩)]) ∧ (convert 72 9 (.slice a9 (r1 + zk) p9)).run Try.prog W = .ok (.string tb) W) := Lib.hid (fun W hb => by
        have h2 := S10.out.below hb
        obtain ⟨-, -, -, -, -, q5, q6, q7, -⟩ := h2.toWS.cells
        exact ⟨q5, q6, q7, CV.out _ h2.row⟩)
      have hq0 : tb.size + f8.size + f4.size ≤ 4096 := by
        have q := TSZ.out
        rw [ByteArray.size_append, ByteArray.size_append] at q
        omega
      have g1 : ¬ (9223372036854775807 : Int) < (tb.size : Int) + (f8.size : Int) := by omega
      have g2 : ¬ (9223372036854775807 : Int) < (tb.size : Int) + (f8.size : Int) + (f4.size : Int) := by omega
      have g3 : ¬ 9223372036854775807 < tb.size + f8.size := by omega
      have g4 : ¬ 9223372036854775807 < tb.size + f8.size + f4.size := by omega
      have g5 : ¬ (((tb.size + f8.size : Nat) : Int) > IntKind.i64.max) := by
        have : IntKind.i64.max = 9223372036854775807 := by decide
        omega
      have g6 : ¬ ((((tb ++ f8).size + f4.size : Nat) : Int) > IntKind.i64.max) := by
        have : IntKind.i64.max = 9223372036854775807 := by decide
        rw [ByteArray.size_append]
        omega
      have B0 : Hid (Below W5.heap.size W5 W5.drew) := Lib.hid (Below.refl _ _).drew
      have R2 := KC.out _ B0.out
      clear hf8 hf4
      go_region_held3 (fun w' => w'.cell? ⟨wb, 5, none⟩ = some (.int .i64 (L : Int)) ∧ w'.cell? ⟨wb, 6, none⟩ = some (.int .u32 (sn : Int)) ∧ w'.cell? ⟨wb, 7, none⟩ = some (.func (.func 72) #[] #[.pointer (some ⟨pb, 0, none⟩), .pointer (some ⟨xb, 0, none⟩), .pointer (some ⟨qb, 0, none⟩)]) ∧ (convert 72 9 (.slice a9 (r1 + zk) p9)).run Try.prog w' = .ok (.string tb) w')
        (first
        | (with_reducible assumption)
        | (exact R2)
        | (exact KC.out _ B0.out))
        (first
        | (go_at_call 76; with_reducible refine Calls.mono (FX8.out _) ?_; rintro e wx ⟨rfl, kx⟩; have B0 : Hid (Below W5.heap.size W5 wx) := Lib.hid (B0.out.trans (kx.mono B0.out.size)); clear kx R2; have R2 := KC.out _ B0.out)
        | (go_at_call 76; with_reducible refine Calls.mono (FX4.out _) ?_; rintro e wx ⟨rfl, kx⟩; have B0 : Hid (Below W5.heap.size W5 wx) := Lib.hid (B0.out.trans (kx.mono B0.out.size)); clear kx R2; have R2 := KC.out _ B0.out)
        | (have q1 := S10.out.below B0.out; have q2 := q1.put hcd hst TSZ.out hN16; with_reducible refine Calls.mono q2 ?_; clear q1 q2 R2; rintro e w8 ⟨rfl, s8⟩; have S8 := Lib.hid s8; clear s8; have R2 := (by (obtain ⟨-, -, -, -, -, q5, q6, q7, -⟩ := S8.out.toWS.cells; exact ⟨q5, q6, q7, CV.out _ S8.out.row⟩) : w8.cell? ⟨wb, 5, none⟩ = some (.int .i64 (L : Int)) ∧ w8.cell? ⟨wb, 6, none⟩ = some (.int .u32 (sn : Int)) ∧ w8.cell? ⟨wb, 7, none⟩ = some (.func (.func 72) #[] #[.pointer (some ⟨pb, 0, none⟩), .pointer (some ⟨xb, 0, none⟩), .pointer (some ⟨qb, 0, none⟩)]) ∧ (convert 72 9 (.slice a9 (r1 + zk) p9)).run Try.prog w8 = .ok (.string tb) w8)))
      all_goals
        obtain ⟨-, -, -, -, -, -, -, -, c8, cf, -⟩ := S8.out.toWS.cells
        have f8' := cf 8
        have S14 := Lib.hid (S8.out.toWS.set 8 (.bool true) (ln - 1 + 1) L (sn : Int) true rfl)
        clear cf S8 R2
        go_wp2_with fail
        go_ret
        refine ⟨rfl, _, .slice ra1 r1 rc1, pb, xb, qb, R1, ln - 1 + 1, by rw [HL.out, HSN.out]; exact S14.out.mono (by omega), closed_of NE.out h1 HTB.out (by rw [HR1.out]; exact HZK.out) (by rw [HL.out]; exact HF8.out) (by rw [HSN.out]; exact HF4.out), fun k hk => ?_⟩
        show (if k = (st : Int) + ((ln - 1 : Nat) : Int) then tb ++ f8 ++ f4 else V1 k) = V k
        rw [if_neg (by omega)]
        exact OU.out k hk

end Go.Proofs.Ytbgbomlmgkgkoaa.st

namespace Go.Proofs.Ytbgbomlmgkgkoaa.st
open Go.RowKit Go.Proofs.Ytbgbomlmgkgkoaa.own Go.Proofs.Ytbgbomlmgkgkoaa.dv Go.Proofs.Ytbgbomlmgkgkoaa.po Go.Proofs.Ytbgbomlmgkgkoaa.arcI

theorem rcheck_any (w : World) (nb ns : Nat) (h1 : 16 ≤ nb ∧ nb ≤ 4096) (h2 : 1 ≤ ns ∧ ns ≤ 8) :
    Calls Try.prog 106 #[.agg #[.int .i64 nb, .int .i64 ns]] w fun e w' => e = .returned (.int .i64 0) ∧ Below w.heap.size w w' := by
  have a1 : decide ((nb : Int) < 16) = false := decide_eq_false (by omega)
  have a2 : decide ((4096 : Int) < (nb : Int)) = false := decide_eq_false (by omega)
  have a3 : decide ((ns : Int) < 1) = false := decide_eq_false (by omega)
  have a4 : decide ((8 : Int) < (ns : Int)) = false := decide_eq_false (by omega)
  go_enter Try.func106, Try.ntmps106
  go_wp2_with fail
  go_ret
  exact ⟨rfl, (Below.refl _ w).alloc (Nat.le_refl _) _⟩

theorem Try.infoStr9 : (Try.prog.info? 9).map (fun i => (i.zero, i.size, i.bytes)) = some (some (.string ⟨#[]⟩), 1, 16) := by kernel_rfl
theorem Try.infoInt9 : (Try.prog.info? 3).map (fun i => (i.zero, i.size, i.bytes)) = some (some (.int .i64 0), 1, 8) := by kernel_rfl
def StrK (xs : List Value) : Prop := ∀ v ∈ xs, v.oneCell' = true

def rdev9 (m : Nat) (rv : Value) : Array Value := #[.int .i64 24, .int .i64 (m : Int), rv, .slice none 0 0, .int .i64 0, .slice none 0 0, .int .i64 0, .int .u8 0, .bool false, .int .i64 0, .int .i64 0]
set_option maxRecDepth 100000 in
set_option maxHeartbeats 3200000 in
theorem rnew04_any (w : World) (m : Nat) (hm : 1 ≤ m ∧ m ≤ 8) :
    Calls Try.prog 63 #[.agg #[.int .i64 24, .int .i64 (m : Int)]] w fun e w' => ∃ b, e = .returned (.tuple #[.pointer (some ⟨b, 0, none⟩), .int .i64 0]) ∧ Below w.heap.size w w' := by
  obtain ⟨i0, hi, hz0, hz1, hz2⟩ := info_parts Try.infoStr9
  obtain ⟨i1, hi1, hy0, hy1, hy2⟩ := info_parts Try.infoByte9
  have HI1 := Lib.hid hi1
  have HY0 := Lib.hid hy0
  have HY1 := Lib.hid hy1
  have HY2 := Lib.hid hy2
  clear hi1 hy0 hy1 hy2
  go_enter Try.func63, Try.ntmps63
  go_wp2_with fail
  have hb0 : Below w.heap.size w (w.alloc (.cells #[.int .i64 24, .int .i64 (m : Int)] 29)) := (Below.refl _ w).alloc (Nat.le_refl _) _
  have hgb := World.alloc_heap_new w (.cells #[.int .i64 24, .int .i64 (m : Int)] 29)
  have B0 := Lib.hid hb0
  have G0 := Lib.hid hgb
  clear hb0 hgb
  generalize World.alloc w _ = W0 at B0 G0 ⊢
  refine (rcheck_any W0 24 m (by omega) hm).mono ?_
  rintro e w1 ⟨rfl, hb1⟩
  have g1 : w1.heap[w.heap.size]? = _ := (hb1.block _ (lt_of_block G0.out)).trans G0.out
  have B1 := Lib.hid (B0.out.trans (hb1.mono B0.out.size))
  have G1 := Lib.hid g1
  have k0 : w1.cell? ⟨w.heap.size, 0, none⟩ = some (.int .i64 24) := by rw [cell_of_row w1 _ _ _ _ _ g1]; rfl
  have k1 : w1.cell? ⟨w.heap.size, 1, none⟩ = some (.int .i64 (m : Int)) := by rw [cell_of_row w1 _ _ _ _ _ g1]; rfl
  clear hb1 g1 B0 G0
  go_wp2_with fail
  have hgd := World.alloc_heap_new w1 (.cells (rdev9 m (.slice none 0 0)) 195)
  have hbd : Below w.heap.size w (w1.alloc (.cells (rdev9 m (.slice none 0 0)) 195)) := B1.out.alloc B1.out.size _
  have hgg : (w1.alloc (.cells (rdev9 m (.slice none 0 0)) 195)).heap[w.heap.size]? = _ := (Below.heap_alloc _ _ _ (lt_of_block G1.out)).trans G1.out
  have hlt := lt_of_block G1.out
  have BD := Lib.hid hbd
  have GD := Lib.hid hgd
  have GG := Lib.hid hgg
  clear hbd hgd hgg k0 k1 B1 G1
  change Code.wp _ _ _ _ (w1.alloc (.cells (rdev9 m (.slice none 0 0)) 195))
  generalize w1.alloc _ = W3 at BD GD GG ⊢
  generalize w1.heap.size = gd at GD hlt ⊢
  go_loopw [5] (fun i wr => ∃ k : Nat, i = .int .i64 (k : Int) ∧ k ≤ 24 ∧ ∃ rv xs, wr.heap[gd]? = some (.cells (rdev9 m rv) 195 (0, 0)) ∧ wr.heap[w.heap.size]? = some (.cells #[.int .i64 24, .int .i64 (m : Int)] 29 (0, 0)) ∧ wr.ownsRow (gd + 1) 9 1 rv k xs ∧ Below w.heap.size w wr) (fun i _ => 24 - (intOf i).toNat)
  case atStart => exact ⟨0, rfl, by omega, _, [], GD.out, GG.out, World.ownsRow_nil _ _ _ _, BD.out⟩
  case round =>
    obtain ⟨k, rfl, hk, rv, xs, hd, hg, ho, hb⟩ := hrel
    have H0 := Lib.hid hd
    have H1 := Lib.hid hg
    have H2 := Lib.hid ho
    have H3 := Lib.hid hb
    have c0 : wr.cell? ⟨w.heap.size, 0, none⟩ = some (.int .i64 24) := by rw [cell_of_row _ _ _ _ _ _ hg]; rfl
    have c1 : wr.cell? ⟨w.heap.size, 1, none⟩ = some (.int .i64 (m : Int)) := by rw [cell_of_row _ _ _ _ _ _ hg]; rfl
    have c2 : wr.cell? ⟨gd, 2, none⟩ = some rv := by rw [cell_of_row _ _ _ _ _ _ hd]; rfl
    clear hd hg ho hb
    by_cases hlt2 : k < 24
    · obtain ⟨sz, hsz⟩ : ∃ sz, 512 * m = sz := ⟨_, rfl⟩
      have e1 : IntKind.i64.wrap (512 * (m : Int)) = (sz : Int) := by rw [IntWalk.i64_in _ (by omega)]; omega
      have hsz2 : sz ≤ 4096 := by omega
      clear hsz
      obtain ⟨w4, hrun, hown, hgr⟩ := run_make_full (P := Try.prog) wr.drew wr.drew.heap.size 72 5 i1 _ 1 (by kernel_rfl) HI1.out HY0.out HY1.out .i64 .i64 sz (by rw [HY2.out]; omega) (by simp only [maxLen]; omega) (Nat.le_refl _)
      have hzz : wr.drew.heap.size = wr.heap.size := rfl
      rw [hzz] at hrun hown
      have hg4 : wr.heap.size ≤ w4.heap.size := hgr.size
      clear hzz
      have h04 : w4.heap[gd]? = some (.cells (rdev9 m rv) 195 (0, 0)) := (hgr.block _ (lt_of_block H0.out) (by simp)).trans H0.out
      have ecs : (madeCells (Value.int .u8 0).cells (sz * 1)).toList = bv (List.replicate sz 0) := by
        rw [show (Value.int .u8 0).cells = #[.int .u8 0] from rfl, toList_madeCells_one]
        simp [bv]
      rw [ecs] at hown
      have hcv := row_text (W := w4) (l := List.replicate sz 0) (by rw [List.length_replicate]; exact own_base hown (Nat.zero_le _))
      obtain ⟨tz, htz⟩ : ∃ tz : ByteArray, tz = ⟨(List.replicate sz (0 : UInt8)).toArray⟩ := ⟨_, rfl⟩
      rw [← htz] at hcv
      have BW : Hid (Below wr.heap.size wr (w4.alloc (.cells #[.string tz] 9))) := Lib.hid (by
        have b1 : Below wr.heap.size wr w4 := ⟨hgr.os, hgr.tape, hgr.output, hgr.size, fun k hk => hgr.block k hk (by simp)⟩
        exact b1.alloc b1.size _)
      have GN := Lib.hid (World.alloc_heap_new w4 (.cells #[.string tz] 9))
      have SRC : Hid (Go.Proofs.Ytbgbomlmgkgkoaa.ev.SrcK Try.prog 52 52 9 i0 (.slice (some ⟨w4.heap.size, 0, none⟩) 1 1) 1 [.string tz] (w4.alloc (.cells #[.string tz] 9))) := Lib.hid (Go.Proofs.Ytbgbomlmgkgkoaa.ev.SrcK.ofSrc Try.underlying52 hi (by
        rw [hz1]
        exact Src.ofSlice _ Try.underlying52 _ _ _ _ rfl (fun j u hj => by
          obtain rfl : j = 0 := by
            cases j with
            | zero => rfl
            | succ j => simp at hj
          rw [Addr.add_lit, cell_of_row _ _ _ _ _ _ GN.out]; exact hj) (by intro u hu; simp at hu; subst hu; rfl)))
      have OW5 := Lib.hid (own_below H2.out BW.out)
      have hs1 : ∀ y ∈ [Value.string tz], y.oneCell' = true := by intro u hu; simp at hu; subst hu; rfl
      have hgs : gd + 1 ≤ (w4.alloc (.cells #[.string tz] 9)).heap.size := by have := BW.out.size; have := lt_of_block H0.out; omega
      have HRV : Hid (∀ b, rv.ownBlock = some b → gd + 1 ≤ b) := Lib.hid (fun b hb => (H2.out.lt b hb).1)
      have c24 : w4.cell? ⟨gd, 2, none⟩ = some rv := by rw [cell_of_row _ _ _ _ _ _ h04]; rfl
      have c25 : (w4.alloc (.cells #[.string tz] 9)).cell? ⟨gd, 2, none⟩ = some rv := by rw [cell_of_row _ _ _ _ _ _ ((Below.heap_alloc _ _ _ (lt_of_block h04)).trans h04)]; rfl
      clear hown hgr ecs htz hg4 h04
      go_upto_region 7 with fail
      go_region_law (first
        | (refine wp_append_k _ (by rfl) _ _ 52 52 (by rfl) (gd + 1) 9 i0 _ hz1 hz0 rfl (by omega) rv k xs (by rfl) OW5.out _ 1 [.string tz] (by rfl) SRC.out hs1 (by omega) hgs ?_; intro v9 w9 own9 hg9 hw9 old9; obtain ⟨a9, p9, hv9⟩ := own_shape own9; subst hv9; have O9 := Lib.hid own9; have K9 := Lib.hid hg9; have g9 := (hg9.block gd (by omega) (fun e => by have := HRV.out gd e.symm; omega)).trans ((BW.out.block gd (lt_of_block H0.out)).trans H0.out); have c2 : w9.cell? ⟨gd, 2, none⟩ = some rv := (by rw [cell_of_row _ _ _ _ _ _ g9]; rfl); have f2 : w9.frozen? ⟨gd, 2, none⟩ = false := frozen_of_row _ _ _ _ _ g9; have G9 := Lib.hid g9; clear g9 own9 hg9 hw9 old9))
      all_goals
        go_wp2_with fail
        go_roundw
        case rel =>
          have hb9 : Below w.heap.size w w9 := (H3.out.trans (BW.out.mono H3.out.size)).grown K9.out (by have := BW.out.size; have := H3.out.size; omega) (fun b hb => by have := HRV.out b hb; omega)
          exact ⟨k + 1, by go_num, by omega, _, xs ++ [.string tz], by rw [heap_setCell_same w9 gd 2 _ _ _ G9.out]; rfl, (Below.heap_setCell w9 _ _ _ (show w.heap.size ≠ gd by omega)).trans ((K9.out.block _ (by have := lt_of_block H0.out; have := BW.out.size; omega) (fun e => by have := HRV.out _ e.symm; omega)).trans ((BW.out.block _ (lt_of_block H1.out)).trans H1.out)), O9.out.kept (grownBy_setCell_at w9 gd 2 _) (.inr (fun e => by have := (O9.out.lt _ e).1; omega)), hb9.setCell (p := ⟨gd, 2, none⟩) (by show w.heap.size ≤ gd; omega) _⟩
        case measure => simp [intOf]; omega
    · obtain rfl : k = 24 := by omega
      go_wp2_with fail
      refine bodyPost_ret (v := .tuple #[.pointer (some ⟨gd, 0, none⟩), .int .i64 0]) (by simp [results, Try.f63, go_sem]) rfl ?_
      exact ⟨_, rfl, H3.out⟩

set_option maxRecDepth 100000 in
theorem rnew06_any (w : World) :
    Calls Try.prog 64 #[.int .i64 2, .int .i64 24] w fun e w' => ∃ b, e = .returned (.tuple #[.pointer (some ⟨b, 0, none⟩), .int .i64 0]) ∧ Below w.heap.size w w' := by
  obtain ⟨i0, hi, hz0, hz1, hz2⟩ := info_parts Try.infoInt9
  obtain ⟨w1, hrun, hown, hg⟩ := run_make_full (P := Try.prog) w w.heap.size 45 3 i0 _ 1 (by kernel_rfl) hi hz0 hz1 .i64 .i64 24 (by rw [hz2]; omega) (by simp only [maxLen]; omega) (Nat.le_refl _)
  rw [show ((24 : Nat) : Int) = 24 from rfl] at hrun
  have B1 : Below w.heap.size w w1 := ⟨hg.os, hg.tape, hg.output, hg.size, fun k hk => hg.block k hk (by simp)⟩
  clear hown hg
  go_enter Try.func64, Try.ntmps64
  go_wp2_with fail
  refine bodyPost_ret (v := .tuple #[.pointer (some ⟨w1.heap.size, 0, none⟩), .int .i64 0]) (by simp [results, Try.f64, go_sem]) rfl ?_
  exact ⟨_, rfl, B1.alloc B1.size _⟩
theorem rnew09_any (w : World) (n : Nat) (h1 : 1 ≤ n) (h2 : n ≤ 1024) :
    Calls Try.prog 107 #[.int .i64 (n : Int)] w fun e w' => ∃ b, e = .returned (.tuple #[.pointer (some ⟨b, 0, none⟩), .int .i64 0]) ∧ Below w.heap.size w w' := by
  have hmm := @run_makeMap Try.prog
  have a1 : decide ((n : Int) < 1) = false := decide_eq_false (by omega)
  have a2 : decide ((4096 : Int) < (n : Int)) = false := decide_eq_false (by omega)
  go_enter Try.func107, Try.ntmps107
  go_wp2_with fail
  refine bodyPost_ret (v := .tuple #[.pointer (some ⟨w.heap.size + 1, 0, none⟩), .int .i64 0]) (by simp [results, Try.f107, go_sem]) rfl ?_
  exact ⟨_, rfl, ((Below.refl _ w).alloc (Nat.le_refl _) _).alloc (by simp) _⟩
theorem rnew10_any (w : World) (n : Nat) (h1 : 1 ≤ n) (h2 : n ≤ 1024) (db mb : Nat) :
    Calls Try.prog 65 #[.pointer (some ⟨db, 0, none⟩), .int .i64 (n : Int), .pointer (some ⟨mb, 0, none⟩)] w fun e w' => ∃ b, e = .returned (.tuple #[.pointer (some ⟨b, 0, none⟩), .int .i64 0]) ∧ Below w.heap.size w w' := by
  have a1 : decide ((n : Int) < 1) = false := decide_eq_false (by omega)
  have a2 : decide ((1024 : Int) < (n : Int)) = false := decide_eq_false (by omega)
  go_enter Try.func65, Try.ntmps65
  go_wp2_with fail
  refine (rnew09_any _ n h1 h2).mono ?_
  rintro e w1 ⟨b, rfl, hb⟩
  have B := Lib.hid hb
  clear hb
  go_wp2_with fail
  refine bodyPost_ret (v := .tuple #[.pointer (some ⟨w1.heap.size, 0, none⟩), .int .i64 0]) (by simp [results, Try.f65, go_sem]) rfl ?_
  exact ⟨_, rfl, B.out.alloc B.out.size _⟩

/-! ### the law's world, made new -/
theorem mod3_is (m : Int) : ∃ z : Nat, wrap64 (1 + (wrap64 (m.tmod 3 + 3)).tmod 3) = z ∧ 1 ≤ z ∧ z ≤ 3 := by
  have h1 : -3 < m.tmod 3 := Int.lt_tmod_of_pos m (by omega)
  have h2 : m.tmod 3 < 3 := Int.tmod_lt_of_pos m (by omega)
  generalize m.tmod 3 = r at h1 h2 ⊢
  rw [IntWalk.wrap64_in (r + 3) (by omega), Int.tmod_eq_emod_of_nonneg (by omega), IntWalk.wrap64_in _ (by omega)]
  exact ⟨(1 + (r + 3) % 3).toNat, by omega, by omega, by omega⟩
theorem mod9_is (m : Int) : ∃ z : Nat, wrap64 (1 + (wrap64 (m.tmod 9 + 9)).tmod 9) = z ∧ 1 ≤ z ∧ z ≤ 9 := by
  have h1 : -9 < m.tmod 9 := Int.lt_tmod_of_pos m (by omega)
  have h2 : m.tmod 9 < 9 := Int.tmod_lt_of_pos m (by omega)
  generalize m.tmod 9 = r at h1 h2 ⊢
  rw [IntWalk.wrap64_in (r + 9) (by omega), Int.tmod_eq_emod_of_nonneg (by omega), IntWalk.wrap64_in _ (by omega)]
  exact ⟨(1 + (r + 9) % 9).toNat, by omega, by omega, by omega⟩
def MC (c0 d0 e0 : Nat) : Nat → Prop := fun e => PC c0 d0 e ∨ EC e0 e ∨ e = 45
set_option maxRecDepth 100000 in
set_option maxHeartbeats 1600000 in
theorem made_any (x : Nat → Nat) (c0 d0 e0 : Nat) (hcd : c0 + 9 < d0 ∨ d0 + 2 < c0) (hde : d0 + 2 < e0 ∨ e0 + 1 < d0) (hq : ¬ PD c0 d0 45) (w : World) (s0 f0 : Int) :
    Calls Try.prog 24 #[.int .i64 s0, .int .i64 f0] w fun e w' => ∃ sb db eb mb rb m fr x', e = .returned (.tuple #[.agg #[.pointer (some ⟨db, 0, none⟩), .pointer (some ⟨sb, 0, none⟩), .pointer (some ⟨mb, 0, none⟩), .pointer (some ⟨rb, 0, none⟩)], .bool true]) ∧
      1 ≤ m ∧ m ≤ 3 ∧ 1 ≤ fr ∧ fr ≤ 9 ∧ Fr x x' (MC c0 d0 e0) w w' ∧ SIs x' c0 d0 w' sb db eb (newP fr) (newD 24 m) 0 := by
  obtain ⟨m, hm, s1, s2⟩ := mod3_is s0
  obtain ⟨fr, hfr, t1, t2⟩ := mod9_is f0
  go_enter Try.func24, Try.ntmps24
  go_wp2_with fail
  simp only [hm, hfr]
  have hb0 : Below w.heap.size w (w.alloc (.cells #[.pointer none, .pointer none, .pointer none, .pointer none] 61)) := (Below.refl _ w).alloc (Nat.le_refl _) _
  have hf0 : Fr x (paint x w.heap.size 45) (MC c0 d0 e0) w (w.alloc (.cells #[.pointer none, .pointer none, .pointer none, .pointer none] 61)) := Fr.of_below hb0 (.inr (.inr rfl))
  have hxg : paint x w.heap.size 45 w.heap.size = 45 := paint_new (Nat.le_refl _)
  have hgb := World.alloc_heap_new w (.cells #[.pointer none, .pointer none, .pointer none, .pointer none] 61)
  have F0 := Lib.hid hf0
  have G0 := Lib.hid hgb
  clear hb0 hf0 hgb hm hfr
  generalize World.alloc w _ = W0 at F0 G0 ⊢
  generalize paint x w.heap.size 45 = x0 at F0 hxg
  have XG := Lib.hid hxg
  clear hxg
  refine (DNew_any x0 d0 W0 24 m (by omega) (by omega)).mono ?_
  rintro e w1 ⟨db, x1, rfl, f1, d1, b1⟩
  have F1 := Lib.hid (F0.out.trans (f1.mono (D := MC c0 d0 e0) (fun e he => .inl (.inr he))))
  have D1 := Lib.hid d1
  have G1 := Lib.hid ((b1.block _ (lt_of_block G0.out)).trans G0.out)
  have X1 := Lib.hid ((f1.col _ (lt_of_block G0.out)).trans XG.out)
  clear f1 d1 b1 F0 G0 XG
  go_wp2_with fail
  refine (ENew_any x1 e0 w1 2 24 (by omega) (by omega)).mono ?_
  rintro e w2 ⟨eb, x2, rfl, f2, -, b2⟩
  have D2 := Lib.hid (D1.out.frame f2 (fun e he hc => by have a := he.1; have a2 := he.2; have b := hc.1; have b2 := hc.2; omega))
  have F2 := Lib.hid (F1.out.trans (f2.mono (D := MC c0 d0 e0) (fun e he => .inr (.inl he))))
  have G2 := Lib.hid ((b2.block _ (lt_of_block G1.out)).trans G1.out)
  have X2 := Lib.hid ((f2.col _ (lt_of_block G1.out)).trans X1.out)
  clear f2 b2 F1 D1 G1 X1
  go_wp2_with fail
  refine (PNew_any x2 c0 db eb w2 fr t1 (by omega)).mono ?_
  rintro e w3 ⟨sb, cb, pm, x3, rfl, f3, t3, b3⟩
  have D3 := Lib.hid (D2.out.frame f3 (fun e he hc => by have a := he.1; have a2 := he.2; have b := hc.1.1; have b2 := hc.1.2; omega))
  have F3 := Lib.hid (F2.out.trans (f3.mono (D := MC c0 d0 e0) (fun e he => .inl (.inl he.1))))
  have S3 : Hid (SIs x3 c0 d0 w3 sb db eb (newP fr) (newD 24 m) 0) := Lib.hid ⟨⟨cb, pm, _, t3⟩, D3.out⟩
  have G3 := Lib.hid ((b3.block _ (lt_of_block G2.out)).trans G2.out)
  have X3 := Lib.hid ((f3.col _ (lt_of_block G2.out)).trans X2.out)
  clear f3 b3 t3 F2 D2 G2 X2 D3
  go_wp2_with fail
  refine (rnew04_any w3 m (by omega)).mono ?_
  rintro e w4 ⟨mb, rfl, b4⟩
  have B4 := Lib.hid b4
  clear b4
  go_wp2_with fail
  refine (rnew06_any w4).mono ?_
  rintro e w5 ⟨nb, rfl, b5⟩
  have B5 := Lib.hid (B4.out.trans (b5.mono B4.out.size))
  clear b5 B4
  go_wp2_with fail
  refine (rnew10_any w5 fr t1 (by omega) mb nb).mono ?_
  rintro e w6 ⟨rb, rfl, b6⟩
  have B6 := Lib.hid (B5.out.trans (b6.mono B5.out.size))
  clear b6 B5
  have G6 : w6.heap[w.heap.size]? = _ := (B6.out.block _ (lt_of_block G3.out)).trans G3.out
  have F6 : Fr x3 (paint x3 w3.heap.size 45) (fun e => e = 45) w3 w6 := Fr.of_below B6.out rfl
  have X6 : paint x3 w3.heap.size 45 w.heap.size = 45 := (F6.col _ (lt_of_block G3.out)).trans X3.out
  have S6 := Lib.hid (S3.out.frame F6 (fun e he hc => by subst hc; exact hq he))
  have FF := Lib.hid (F3.out.trans (F6.mono (D := MC c0 d0 e0) (fun e he => .inr (.inr he))))
  have k0 : w6.cell? ⟨w.heap.size, 0, none⟩ = some (.pointer none) := by rw [cell_of_row _ _ _ _ _ _ G6]; rfl
  have k1 : w6.cell? ⟨w.heap.size, 1, none⟩ = some (.pointer none) := by rw [cell_of_row _ _ _ _ _ _ G6]; rfl
  have k2 : w6.cell? ⟨w.heap.size, 2, none⟩ = some (.pointer none) := by rw [cell_of_row _ _ _ _ _ _ G6]; rfl
  have k3 : w6.cell? ⟨w.heap.size, 3, none⟩ = some (.pointer none) := by rw [cell_of_row _ _ _ _ _ _ G6]; rfl
  have kf : ∀ j, w6.frozen? ⟨w.heap.size, j, none⟩ = false := fun j => frozen_of_row _ _ _ _ _ G6
  have kf0 := kf 0
  have kf1 := kf 1
  have kf2 := kf 2
  have kf3 := kf 3
  have G6 := Lib.hid G6
  have X6 := Lib.hid X6
  clear kf F6 G3 X3 F3 S3 B6
  go_wp2_with fail
  refine bodyPost_ret (v := .tuple #[.agg #[.pointer (some ⟨db, 0, none⟩), .pointer (some ⟨sb, 0, none⟩), .pointer (some ⟨mb, 0, none⟩), .pointer (some ⟨rb, 0, none⟩)], .bool true]) (by simp [results, Try.f24, go_sem, k0, k1, k2, k3]) rfl ?_
  have f7 : Fr (paint x3 w3.heap.size 45) (paint x3 w3.heap.size 45) (fun e => e = 45) w6 ((((w6.setCell ⟨w.heap.size, 0, none⟩ (.pointer (some ⟨db, 0, none⟩))).setCell ⟨w.heap.size, 1, none⟩ (.pointer (some ⟨sb, 0, none⟩))).setCell ⟨w.heap.size, 2, none⟩ (.pointer (some ⟨mb, 0, none⟩))).setCell ⟨w.heap.size, 3, none⟩ (.pointer (some ⟨rb, 0, none⟩))) := Fr.same rfl rfl rfl (by simp) (fun b _ hC => by
    have hne : b ≠ w.heap.size := by rintro rfl; exact hC X6.out
    rw [Below.heap_setCell _ _ _ _ hne, Below.heap_setCell _ _ _ _ hne, Below.heap_setCell _ _ _ _ hne, Below.heap_setCell _ _ _ _ hne])
  exact ⟨sb, db, eb, mb, rb, m, fr, _, rfl, s1, s2, t1, t2, FF.out.trans (f7.mono (fun e he => .inr (.inr he))), S6.out.frame f7 (fun e he hc => by subst hc; exact hq he)⟩

end Go.Proofs.Ytbgbomlmgkgkoaa.st

namespace Go.Proofs.Ytbgbomlmgkgkoaa.st
open Go.RowKit Go.Proofs.Ytbgbomlmgkgkoaa.own Go.Proofs.Ytbgbomlmgkgkoaa.dv Go.Proofs.Ytbgbomlmgkgkoaa.po Go.Proofs.Ytbgbomlmgkgkoaa.arcI

/-- the bytes of a stream from off on, by what the blocks have -/
def readL (V : Int → ByteArray) (st sz off n : Nat) : List UInt8 := (List.range n).map fun j => ((V ((st : Int) + (((off + j) / sz : Nat) : Int))).data.toList[(off + j) % sz]?).getD 0
theorem readL_len (V : Int → ByteArray) (st sz off n : Nat) : (readL V st sz off n).length = n := by simp [readL]
theorem readL_add (V : Int → ByteArray) (st sz off a b : Nat) : readL V st sz off (a + b) = readL V st sz off a ++ readL V st sz (off + a) b := by
  unfold readL
  rw [List.range_add, List.map_append, List.map_map]
  congr 1
  refine List.map_congr_left fun j _ => ?_
  show ((V ((st : Int) + (((off + (a + j)) / sz : Nat) : Int))).data.toList[(off + (a + j)) % sz]?).getD 0 = _
  rw [← Nat.add_assoc]
theorem readL_chunk {V : Int → ByteArray} {st sz off k : Nat} (hz : 0 < sz) (hV : (V ((st : Int) + ((off / sz : Nat) : Int))).size = sz) (hk : off % sz + k ≤ sz) :
    readL V st sz off k = ((V ((st : Int) + ((off / sz : Nat) : Int))).data.toList.drop (off % sz)).take k := by
  have hl : (V ((st : Int) + ((off / sz : Nat) : Int))).data.toList.length = sz := by rw [Array.length_toList]; exact hV
  refine List.ext_getElem (by rw [readL_len, List.length_take, List.length_drop, hl]; omega) fun j h1 h2 => ?_
  rw [readL_len] at h1
  have hm := Nat.div_add_mod off sz
  have e1 : (off + j) / sz = off / sz := by
    rw [show off + j = sz * (off / sz) + (off % sz + j) by omega, Nat.mul_add_div hz, Nat.div_eq_of_lt (show off % sz + j < sz by omega), Nat.add_zero]
  have e2 : (off + j) % sz = off % sz + j := by
    rw [show off + j = sz * (off / sz) + (off % sz + j) by omega, Nat.mul_add_mod, Nat.mod_eq_of_lt (show off % sz + j < sz by omega)]
  simp only [readL, List.getElem_map, List.getElem_range, List.getElem_take, List.getElem_drop, e1, e2]
  rw [List.getElem?_eq_getElem (by omega)]; rfl
theorem readL_of {V : Int → ByteArray} {st sz off n : Nat} {T : List UInt8} (h : ∀ i, i < T.length → (V ((st : Int) + ((i / sz : Nat) : Int))).data.toList[i % sz]? = T[i]?) (hn : off + n ≤ T.length) : readL V st sz off n = (T.drop off).take n := by
  refine List.ext_getElem (by rw [readL_len, List.length_take, List.length_drop]; omega) fun j h1 h2 => ?_
  rw [readL_len] at h1
  simp only [readL, List.getElem_map, List.getElem_range, List.getElem_take, List.getElem_drop]
  rw [h (off + j) (by omega), List.getElem?_eq_getElem (by omega)]
  rfl
theorem extract_list (t : ByteArray) (a b : Nat) : (t.extract a b).data.toList = (t.data.toList.drop a).take (b - a) := by
  rw [ByteArray.data_extract, Array.toList_extract]
/-- a number, by its bytes -/
def numB (l : List UInt8) : Nat := l.foldl (fun n b => n * 256 + b.toNat) 0
theorem numB_snoc (l : List UInt8) (b : UInt8) : numB (l ++ [b]) = numB l * 256 + b.toNat := by simp [numB]
theorem numB_lt (l : List UInt8) : numB l < 256 ^ l.length := by
  have key : ∀ (l : List UInt8) (a k : Nat), a < 256 ^ k → l.foldl (fun n b => n * 256 + b.toNat) a < 256 ^ (k + l.length) := by
    intro l
    induction l with
    | nil => intro a k h; exact h
    | cons b l ih =>
      intro a k h
      show l.foldl _ (a * 256 + b.toNat) < _
      have q := ih (a * 256 + b.toNat) (k + 1) (by rw [Nat.pow_succ]; have := b.toNat_lt; omega)
      rw [List.length_cons, show k + (l.length + 1) = k + 1 + l.length by omega]; exact q
  have := key l 0 0 (by simp)
  rwa [Nat.zero_add] at this
theorem bytesN_succ (n width : Nat) : bytesN n (width + 1) = bytesN (n / 256) width ++ [UInt8.ofNat (n % 256)] := by
  unfold bytesN
  rw [List.range_succ, List.map_append]
  congr 1
  · refine List.map_congr_left fun k hk => ?_
    have hk := List.mem_range.1 hk
    rw [show width + 1 - 1 - k = (width - 1 - k) + 1 by omega, Nat.mul_add, Nat.pow_add, Nat.mul_comm (2 ^ _), ← Nat.div_div_eq_div_mul]
  · simp
theorem numB_bytesN : ∀ (width n : Nat), n < 256 ^ width → numB (bytesN n width) = n
  | 0, n, h => by
    have : n = 0 := by simpa using h
    subst this; rfl
  | width + 1, n, h => by
    rw [bytesN_succ, numB_snoc, numB_bytesN width (n / 256) (by rw [Nat.pow_succ] at h; omega), UInt8.toNat_ofNat', Nat.mod_eq_of_lt (show n % 256 < 2 ^ 8 by omega)]
    omega
theorem wraps9_64 (n : Int) (h₀ : 0 ≤ n) (h₁ : n < 2 ^ 64) : IntKind.u64.wrap n = n := by rw [IntKind.wrap_u64]; omega
theorem numB_take (l : List UInt8) (k : Nat) (h : k < l.length) : numB (l.take (k + 1)) = numB (l.take k) * 256 + l[k].toNat := by rw [List.take_succ_eq_append_getElem h, numB_snoc]
theorem numB_small (l : List UInt8) (k : Nat) (h : k ≤ 7) : numB (l.take k) < 72057594037927936 := by
  refine Nat.lt_of_lt_of_le (numB_lt _) ?_
  calc 256 ^ (l.take k).length ≤ 256 ^ 7 := Nat.pow_le_pow_right (by decide) (by rw [List.length_take]; omega)
    _ = 72057594037927936 := by decide

set_option maxRecDepth 100000 in
set_option maxHeartbeats 1600000 in
theorem number_any (w : World) (s : ByteArray) (hs : s.size ≤ 8) :
    Calls Try.prog 108 #[.string s] w fun e w' => e = .returned (.int .u64 ((numB s.data.toList : Nat) : Int)) ∧ Below w.heap.size w w' := by
  have hcv := fun W : World => run_bytes_of_string (P := Try.prog) W 9 72 5 s Try.underlying9 Try.underlying72 Try.underlying5
  have hl : s.data.toList.length = s.size := Array.length_toList
  go_enter Try.func108, Try.ntmps108
  go_wp2_with fail
  clear hcv
  obtain ⟨gc, hgc⟩ : ∃ gc, grownCap w s.size 0 5 = gc := ⟨_, rfl⟩
  have hgl : s.size ≤ gc := by rw [← hgc]; exact grownCap_ge _ _ _ _
  rw [hgc]
  clear hgc
  have BR2 : Hid (BR ((w.alloc (.cells (bytesRow s gc) 5 ((bytesRow s gc).size, (bytesRow s gc).size + 1))).drew) w.heap.size s.data.toList) := Lib.hid (BR.made w s gc 5)
  have B2 : Hid (Below w.heap.size w ((w.alloc (.cells (bytesRow s gc) 5 ((bytesRow s gc).size, (bytesRow s gc).size + 1))).drew)) := Lib.hid ((Below.refl _ w).alloc (Nat.le_refl _) _).drew
  change Code.wp _ _ _ _ ((World.alloc w _).drew)
  generalize (w.alloc _).drew = W2 at BR2 B2 ⊢
  go_loop [2, 8] (fun n i => ∃ k v : Nat, k ≤ s.size ∧ i = .int .i64 k ∧ n = .int .u64 v ∧ v = numB (s.data.toList.take k)) (fun _ i => s.size - (intOf i).toNat)
  case atStart => exact ⟨0, 0, Nat.zero_le _, rfl, rfl, rfl⟩
  case round =>
    obtain ⟨k, v, hk, rfl, rfl, hv⟩ := hrel
    by_cases hlt : k < s.size
    · have hv7 : v < 72057594037927936 := by rw [hv]; exact numB_small _ k (by omega)
      have HS : Hid (256 * v + (s.data.toList[k]'(by omega)).toNat = numB (s.data.toList.take (k + 1))) := Lib.hid (by rw [numB_take _ k (by omega), hv, Nat.mul_comm])
      obtain ⟨hcell, -⟩ := BR2.out k (by omega)
      obtain ⟨b, hb⟩ : ∃ b, (s.data.toList[k]'(by omega)).toNat = b := ⟨_, rfl⟩
      have hb2 : b < 256 := by rw [← hb]; exact UInt8.toNat_lt _
      rw [hb] at HS hcell
      clear hv hb
      have HO : Hid (bits BinOp.or IntKind.u64 ((v : Int) * 256) (b : Int) = ((256 * v + b : Nat) : Int)) := Lib.hid (by
        have h1 := (bits_nat .u64 64 (by decide) wraps9_64 (v * 2 ^ 8) b (by omega) (by omega)).2
        have h2 : v * 2 ^ 8 ||| b = 256 * v + b := by
          rw [Nat.mul_comm v, ← Nat.two_pow_add_eq_or_of_lt (i := 8) hb2]
        rw [h2] at h1
        rw [← h1]
        congr 1)
      go_wp2
      rw [HO.out]
      refine ⟨⟨k + 1, 256 * v + b, by omega, by go_num, rfl, HS.out⟩, ?_⟩
      simp [intOf]
      omega
    · have E : Hid (v = numB s.data.toList) := Lib.hid (by rw [hv, List.take_of_length_le (by omega)])
      clear hv
      go_wp2
      go_ret
      exact ⟨by rw [E.out]; rfl, B2.out⟩

/-! ### a reader -/
def rdCells (sb st ln L S : Nat) : Array Value := #[.pointer (some ⟨sb, 0, none⟩), .int .i64 (st : Int), .int .i64 (ln : Int), .int .i64 (L : Int), .int .u32 (S : Int)]
def RI (w : World) (rb sb st ln L S : Nat) : Prop := w.heap[rb]? = some (.cells (rdCells sb st ln L S) 206 (0, 0))
theorem RI.cells {w : World} {rb sb st ln L S : Nat} (h : RI w rb sb st ln L S) : w.cell? ⟨rb, 0, none⟩ = some (.pointer (some ⟨sb, 0, none⟩)) ∧ w.cell? ⟨rb, 1, none⟩ = some (.int .i64 (st : Int)) ∧ w.cell? ⟨rb, 2, none⟩ = some (.int .i64 (ln : Int)) ∧ w.cell? ⟨rb, 3, none⟩ = some (.int .i64 (L : Int)) ∧ w.cell? ⟨rb, 4, none⟩ = some (.int .u32 (S : Int)) ∧ ∀ j, w.frozen? ⟨rb, j, none⟩ = false := by
  refine ⟨?_, ?_, ?_, ?_, ?_, fun j => frozen_of_row _ _ _ _ _ h⟩ <;> (rw [cell_of_row _ _ _ _ _ _ h]; rfl)
theorem RI.frame {w w' : World} {rb sb st ln L S : Nat} (h : RI w rb sb st ln L S) (e : w'.heap[rb]? = w.heap[rb]?) : RI w' rb sb st ln L S := e.trans h
theorem Length_any (w : World) (rb sb st ln L S : Nat) (h : RI w rb sb st ln L S) : Calls Try.prog 68 #[.pointer (some ⟨rb, 0, none⟩)] w fun e w' => e = .returned (.int .i64 (L : Int)) ∧ w = w' := by
  obtain ⟨-, -, -, c3, -, -⟩ := h.cells
  clear h
  go_enter Try.func68, Try.ntmps68
  go_wp2_with fail
  go_ret
  exact ⟨rfl, rfl⟩

set_option maxRecDepth 100000 in
set_option maxHeartbeats 3200000 in
theorem Open_any (x : Nat → Nat) (r0 c0 d0 : Nat) (w : World) (sb db eb N m st ln L S : Nat) (V : Int → ByteArray) (hs : SV x c0 d0 w sb db eb N m V) (hcd : c0 + 9 < d0 ∨ d0 + 2 < c0) (hr : ¬ PC c0 d0 r0) (h1 : 1 ≤ ln) (h2 : st + ln ≤ 24) (hN : N + 8 < 1099511627776)
    (hf : (V ((st : Int) + (ln : Int) - 1)).data.toList.drop (512 * m - 12) = bytesN L 8 ++ bytesN S 4) (hL : L ≤ ln * (512 * m) - 12) (hS : S < 4294967296) :
    Calls Try.prog 66 #[.pointer (some ⟨sb, 0, none⟩), .agg #[.int .i64 (st : Int), .int .i64 (ln : Int)]] w fun e w' => ∃ rb x', e = .returned (.tuple #[.pointer (some ⟨rb, 0, none⟩), .int .i64 0]) ∧
      Fr x x' (fun e => PC c0 d0 e ∨ e = r0) w w' ∧ RI w' rb sb st ln L S ∧ x' rb = r0 ∧ w.heap.size ≤ rb ∧ SV x' c0 d0 w' sb db eb (N + 8) m V := by
  have hm := hs.size
  have hmp : ln * (512 * m) ≤ 98304 := by have := Nat.mul_le_mul (show ln ≤ 24 by omega) (show 512 * m ≤ 4096 by omega); omega
  have hp1 : 512 ≤ ln * (512 * m) := by have := Nat.mul_le_mul h1 (show 512 ≤ 512 * m by omega); omega
  have hVs := hs.text ((st : Int) + (ln : Int) - 1)
  have S0 := Lib.hid hs
  obtain ⟨sz, hsz⟩ : ∃ sz, 512 * m = sz := ⟨_, rfl⟩
  obtain ⟨p, hp⟩ : ∃ p, ln * sz = p := ⟨_, rfl⟩
  obtain ⟨t, ht⟩ : ∃ t, V ((st : Int) + (ln : Int) - 1) = t := ⟨_, rfl⟩
  have hsz1 : 512 ≤ sz ∧ sz ≤ 4096 := by omega
  rw [ht, hsz] at hVs hf
  rw [hsz] at hL hmp hp1
  rw [hp] at hL hmp hp1
  have HSZ := Lib.hid hsz
  have HP := Lib.hid hp
  have HT := Lib.hid ht
  have HVS := Lib.hid hVs
  have HF := Lib.hid hf
  clear hs hsz hp ht hf
  go_enter Try.func66, Try.ntmps66
  go_wp2_with fail
  have hb0 : Below w.heap.size w ((w.alloc (.cells #[.int .i64 (st : Int), .int .i64 (ln : Int)] 33)).alloc (.cells #[.pointer (some ⟨sb, 0, none⟩), .int .i64 (st : Int), .int .i64 (ln : Int), .int .i64 0, .int .u32 0] 206)) := ((Below.refl _ w).alloc (Nat.le_refl _) _).alloc (by simp) _
  have hf0 : Fr x (paint x w.heap.size r0) (fun e => e = r0) w ((w.alloc (.cells #[.int .i64 (st : Int), .int .i64 (ln : Int)] 33)).alloc (.cells #[.pointer (some ⟨sb, 0, none⟩), .int .i64 (st : Int), .int .i64 (ln : Int), .int .i64 0, .int .u32 0] 206)) := Fr.of_below hb0 rfl
  have g2 := World.alloc_heap_new (w.alloc (.cells #[.int .i64 (st : Int), .int .i64 (ln : Int)] 33)) (.cells #[.pointer (some ⟨sb, 0, none⟩), .int .i64 (st : Int), .int .i64 (ln : Int), .int .i64 0, .int .u32 0] 206)
  rw [World.size_alloc] at g2
  have g1 : ((w.alloc (.cells #[.int .i64 (st : Int), .int .i64 (ln : Int)] 33)).alloc (.cells #[.pointer (some ⟨sb, 0, none⟩), .int .i64 (st : Int), .int .i64 (ln : Int), .int .i64 0, .int .u32 0] 206)).heap[w.heap.size]? = some (.cells #[.int .i64 (st : Int), .int .i64 (ln : Int)] 33 (0, 0)) := (Below.heap_alloc _ _ _ (by rw [World.size_alloc]; omega)).trans (World.alloc_heap_new w _)
  have F0 := Lib.hid hf0
  have G1 := Lib.hid g1
  have G2 := Lib.hid g2
  have X1 : Hid (paint x w.heap.size r0 w.heap.size = r0) := Lib.hid (paint_new (Nat.le_refl _))
  have X2 : Hid (paint x w.heap.size r0 (w.heap.size + 1) = r0) := Lib.hid (paint_new (by omega))
  have S1 := Lib.hid (S0.out.frame hf0 (fun e he hc => by subst hc; exact hr (PD_PC c0 d0 _ he)))
  clear hb0 hf0 g1 g2 S0
  generalize World.alloc (World.alloc w _) _ = W1 at F0 G1 G2 S1 ⊢
  generalize paint x w.heap.size r0 = x0 at F0 X1 X2 S1
  refine (check_any x0 c0 d0 sb db eb N m V W1 st ln S1.out h1 h2).mono ?_
  rintro e w2 ⟨rfl, hb2⟩
  have f2 : Fr x0 (paint x0 W1.heap.size r0) (fun e => e = r0) W1 w2 := Fr.of_below hb2 rfl
  have S2 := Lib.hid (S1.out.frame f2 (fun e he hc => by subst hc; exact hr (PD_PC c0 d0 _ he)))
  have F2 := Lib.hid (F0.out.trans f2)
  have G3 := Lib.hid ((hb2.block _ (lt_of_block G1.out)).trans G1.out)
  have G4 := Lib.hid ((hb2.block _ (lt_of_block G2.out)).trans G2.out)
  have X3 := Lib.hid ((f2.col _ (lt_of_block G1.out)).trans X1.out)
  have X4 := Lib.hid ((f2.col _ (lt_of_block G2.out)).trans X2.out)
  clear hb2 f2 S1 F0 G1 G2 X1 X2
  generalize paint x0 W1.heap.size r0 = x1 at S2 F2 X3 X4
  have k0 : w2.cell? ⟨w.heap.size, 0, none⟩ = some (.int .i64 (st : Int)) := by rw [cell_of_row _ _ _ _ _ _ G3.out]; rfl
  have k1 : w2.cell? ⟨w.heap.size, 1, none⟩ = some (.int .i64 (ln : Int)) := by rw [cell_of_row _ _ _ _ _ _ G3.out]; rfl
  have e1 : IntKind.i64.wrap ((st : Int) + (ln : Int)) = (st : Int) + (ln : Int) := IntWalk.i64_in _ (by omega)
  have e2 : IntKind.i64.wrap ((st : Int) + (ln : Int) - 1) = (st : Int) + (ln : Int) - 1 := IntWalk.i64_in _ (by omega)
  go_wp2_with fail
  refine (S2.out.read hcd (no := (st : Int) + (ln : Int) - 1) (by omega) (by omega) hN).mono ?_
  rintro e w3 ⟨rfl, x2, f3, s3⟩
  have F3 := Lib.hid ((F2.out.mono (D := fun e => PC c0 d0 e ∨ e = r0) (fun e he => .inr he)).trans (f3.mono (fun e he => .inl he)))
  have S3 := Lib.hid s3
  have G5 := Lib.hid ((f3.old _ (lt_of_block G4.out) (by rw [X4.out]; exact hr)).trans G4.out)
  have X5 := Lib.hid ((f3.col _ (lt_of_block G4.out)).trans X4.out)
  have hlen : IntKind.i64.wrap ((sz : Int) - 12) = ((sz - 12 : Nat) : Int) := by rw [IntWalk.i64_in _ (by omega)]; omega
  rw [HT.out]
  clear f3 s3 S2 F2 G3 G4 X3 X4 k0 k1 e1 e2
  go_wp2_with fail
  have FOOT : Hid ((t.extract (sz - 12) sz).data.toList = bytesN L 8 ++ bytesN S 4) := Lib.hid (by
    rw [extract_list, HF.out, List.take_of_length_le (by rw [List.length_append, bytesN_len, bytesN_len]; omega)])
  obtain ⟨f, hf⟩ : ∃ f, t.extract (sz - 12) sz = f := ⟨_, rfl⟩
  rw [hf] at FOOT
  have hfs : f.size = 12 := by
    have q : f.data.toList.length = f.size := Array.length_toList
    rw [← q, FOOT.out, List.length_append, bytesN_len, bytesN_len]
  rw [hf]
  have A8 : Hid ((f.extract 0 8).data.toList = bytesN L 8) := Lib.hid (by
    rw [extract_list, FOOT.out, List.drop_zero]
    exact List.take_left' (bytesN_len _ _))
  have A4 : Hid ((f.extract 8 12).data.toList = bytesN S 4) := Lib.hid (by
    rw [extract_list, FOOT.out, List.drop_left' (bytesN_len _ _)]
    exact List.take_of_length_le (by rw [bytesN_len]; omega))
  have hs8 : (f.extract 0 8).size = 8 := by rw [ByteArray.size_extract]; omega
  have hs4 : (f.extract 8 12).size = 4 := by rw [ByteArray.size_extract]; omega
  have N8 : numB (f.extract 0 8).data.toList = L := by rw [A8.out]; exact numB_bytesN 8 L (by omega)
  have N4 : numB (f.extract 8 12).data.toList = S := by rw [A4.out]; exact numB_bytesN 4 S (by omega)
  have N8 := Lib.hid N8
  have N4 := Lib.hid N4
  have HS8 := Lib.hid hs8
  have HS4 := Lib.hid hs4
  clear hf hs8 hs4
  refine (number_any w3 (f.extract 0 8) (by rw [HS8.out]; omega)).mono ?_
  rintro e w4 ⟨rfl, hb4⟩
  rw [N8.out]
  have B4 := Lib.hid hb4
  have r4 := (hb4.block _ (lt_of_block G5.out)).trans G5.out
  have q0 : w4.cell? ⟨w.heap.size + 1, 0, none⟩ = some (.pointer (some ⟨sb, 0, none⟩)) := by rw [cell_of_row _ _ _ _ _ _ r4]; rfl
  have q1 : w4.cell? ⟨w.heap.size + 1, 1, none⟩ = some (.int .i64 (st : Int)) := by rw [cell_of_row _ _ _ _ _ _ r4]; rfl
  have q2 : w4.cell? ⟨w.heap.size + 1, 2, none⟩ = some (.int .i64 (ln : Int)) := by rw [cell_of_row _ _ _ _ _ _ r4]; rfl
  have S4 := Lib.hid (S3.out.blocks24 w4 hb4)
  clear hb4 r4
  go_wp2_with fail
  refine (room_any x2 c0 d0 sb db eb (N + 8) m V w4 st ln S4.out h1 (by omega)).mono ?_
  rintro e w5 ⟨rfl, hb5⟩
  rw [HSZ.out, HP.out]
  have B5 := Lib.hid (B4.out.trans (hb5.mono B4.out.size))
  clear hb5 B4 S4 q0 q1 q2
  have e3 : IntKind.u64.wrap ((p - 12 : Nat) : Int) = ((p - 12 : Nat) : Int) := IntWalk.u64_in _ (by omega)
  have e4 : IntKind.i64.wrap (L : Int) = (L : Int) := IntWalk.i64_in _ (by omega)
  have e5 : decide (((p - 12 : Nat) : Int) < (L : Int)) = false := decide_eq_false (by omega)
  have e6 : decide ((p - 12 : Nat) < L) = false := decide_eq_false (by omega)
  go_wp2_with fail
  refine (number_any w5 (f.extract 8 12) (by rw [HS4.out]; omega)).mono ?_
  rintro e w6 ⟨rfl, hb6⟩
  rw [N4.out]
  have B6 := Lib.hid (B5.out.trans (hb6.mono B5.out.size))
  have g6 := (B6.out.block _ (lt_of_block G5.out)).trans G5.out
  have q3 : w6.cell? ⟨w.heap.size + 1, 3, none⟩ = some (.int .i64 0) := by rw [cell_of_row _ _ _ _ _ _ g6]; rfl
  have q4 : w6.cell? ⟨w.heap.size + 1, 4, none⟩ = some (.int .u32 0) := by rw [cell_of_row _ _ _ _ _ _ g6]; rfl
  have qf : ∀ j, w6.frozen? ⟨w.heap.size + 1, j, none⟩ = false := fun j => frozen_of_row _ _ _ _ _ g6
  have qf3 := qf 3
  have qf4 := qf 4
  have e7 : IntKind.u32.wrap (S : Int) = (S : Int) := IntWalk.u32_in _ (by omega)
  have G6 := Lib.hid g6
  clear hb6 B5 g6 qf
  go_wp2_with fail
  refine bodyPost_ret (v := .tuple #[.pointer (some ⟨w.heap.size + 1, 0, none⟩), .int .i64 0]) (by simp [results, Try.f66, go_sem]) rfl ?_
  have f6 : Fr x2 (paint x2 w3.heap.size r0) (fun e => e = r0) w3 w6 := Fr.of_below B6.out rfl
  have x6 : paint x2 w3.heap.size r0 (w.heap.size + 1) = r0 := (f6.col _ (lt_of_block G5.out)).trans X5.out
  have f7 : Fr (paint x2 w3.heap.size r0) (paint x2 w3.heap.size r0) (fun e => e = r0) w6 ((w6.setCell ⟨w.heap.size + 1, 3, none⟩ (.int .i64 (L : Int))).setCell ⟨w.heap.size + 1, 4, none⟩ (.int .u32 (S : Int))) := Fr.same rfl rfl rfl (by simp) (fun b _ hC => by
    have hne : b ≠ w.heap.size + 1 := by rintro rfl; exact hC x6
    rw [Below.heap_setCell _ _ _ _ hne, Below.heap_setCell _ _ _ _ hne])
  refine ⟨_, _, rfl, F3.out.trans ((f6.trans f7).mono (fun e he => .inr he)), ?_, x6, by omega, (S3.out.frame f6 (fun e he hc => by subst hc; exact hr (PD_PC c0 d0 _ he))).frame f7 (fun e he hc => by subst hc; exact hr (PD_PC c0 d0 _ he))⟩
  unfold RI
  rw [heap_setCell_same _ (w.heap.size + 1) 4 _ _ _ (heap_setCell_same w6 (w.heap.size + 1) 3 _ _ _ G6.out)]
  rfl

end Go.Proofs.Ytbgbomlmgkgkoaa.st
