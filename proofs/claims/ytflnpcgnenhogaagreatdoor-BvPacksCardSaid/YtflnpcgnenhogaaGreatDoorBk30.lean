/- Own lemmas, laid together. -/
import Derived.Test.YtflnpcgnenhogaaGreatDoorBk27
import Derived.Test.YtflnpcgnenhogaaGreatDoorBk28
import Derived.Test.YtflnpcgnenhogaaGreatDoorBk29
import Derived.Test.YtflnpcgnenhogaaGreatDoorBk13
namespace Go.Proofs.YtflnpcgnenhogaaGreatDoor.ls
open Go.RowKit Go.Proofs.YtflnpcgnenhogaaGreatDoor.own Go.Proofs.YtflnpcgnenhogaaGreatDoor.bit

/-- bools that a call reads -/
def BoV (w : World) (a : Option Addr) (n : Nat) : Prop := ∀ i, i < n → ∃ g o b, a = some ⟨g, o, none⟩ ∧ g < w.heap.size ∧ w.cell? ⟨g, o + i, none⟩ = some (.bool b)
/-- between two vertices -/
def LI (w : World) (b : Bp) (i qb kb : Nat) (all : ByteArray) (W : World) : Prop :=
 ∃ T B D E wb, PQ w b T B D E qb T (B.drop D) D E kb wb [] W ∧ BI T B D E i ∧ D % 8 = 0 ∧ all = txt (packN (B.take D))
theorem LI.below {w W : World} {b : Bp} {i qb kb : Nat} {all : ByteArray} (h : LI w b i qb kb all W) : Below w.heap.size w W := by
 obtain ⟨T, B, D, E, wb, h1, _⟩ := h
 exact h1.below
/-- a list of one's own, to be written over -/
def SH (sl : Option Addr) (m : Nat) (kl : List (Nat × Obj)) : Prop := m = 0 ∨ ∃ g cur, sl = some ⟨g, 0, none⟩ ∧ kl = [(g, .cells cur 77 (0, 0))] ∧ m ≤ cur.size
theorem own_kl {W : World} {base : Nat} {v : Value} {l : List Nat} (h : W.ownsRow base 77 1 v l.length (u32V l)) (hl : l.length ≤ 4611686018427387903) (hb : ∀ x ∈ l, x < 4294967296) : ∃ (kv : List (Nat × Obj)) (s : Option Addr) (d : Nat), v = .slice s l.length d ∧ l.length ≤ d ∧ Stands kv s l ∧ (∀ p ∈ kv, base ≤ p.1 ∧ W.heap[p.1]? = some p.2) ∧ SH s l.length kv := by
 rcases h.2 with ⟨rfl, h0⟩ | ⟨g, cap, cur, rfl, hbg, hg, hn, _, hsz, htake⟩
 ·have hl0 : l = [] := List.eq_nil_of_length_eq_zero h0
  subst hl0
  exact ⟨[], none, 0, rfl, Nat.le_refl _, fun W _ => LV.nil, (fun p hp => by cases hp), .inl rfl⟩
 ·refine ⟨[(g, .cells cur 77 (0, 0))], _, cap, rfl, hn, fun W' hW' => ⟨by omega, fun i hi => ?_⟩, fun p hp => by rw [List.mem_singleton.1 hp]; exact ⟨hbg, hg⟩, .inr ⟨g, cur, rfl, rfl, by omega⟩⟩
  have hr := hW' _ (List.mem_singleton.2 rfl)
  refine ⟨g, 0, rfl, lt_of_block hr, ?_, hb _ (List.getElem_mem hi)⟩
  have hx : (u32V l)[i]? = some (.int .u32 (l[i] : Int)) := by unfold u32V; rw [List.getElem?_map, List.getElem?_eq_getElem hi]; rfl
  rw [← htake, List.getElem?_take_of_lt (by omega)] at hx
  rw [Nat.zero_add, cell_of_row _ _ _ _ _ _ hr, ← Array.getElem?_toList]
  exact hx
theorem PQ.cells {w W : World} {b : Bp} {T T' : List Tk} {B L : Bits} {D E qb D' E' kb wb : Nat} {K : List (Nat × Obj)} (h : PQ w b T B D E qb T' L D' E' kb wb K W) : ∃ aL dL aB dB, W.cell? ⟨qb, 5, none⟩ = some (.slice aL T.length dL) ∧ W.cell? ⟨qb, 7, none⟩ = some (.slice aB B.length dB) ∧ W.ownsRow 0 4 1 (.slice aB B.length dB) B.length (bls B) := by
 obtain ⟨gs, vL, vC, vB, V, ks, hd⟩ := h.dp
 obtain ⟨c5, -, c7, -, -⟩ := row_cells hd.row
 have oB := hd.ownB
 obtain ⟨aL, dL, rfl⟩ := own_shape hd.ownL
 obtain ⟨aB, dB, rfl⟩ := own_shape oB
 exact ⟨aL, dL, aB, dB, c5, c7, oB⟩
theorem PQ.drain {w W : World} {b : Bp} {T T' : List Tk} {B L : Bits} {D E qb D' E' kb wb : Nat} {K : List (Nat × Obj)} (h : PQ w b T B D E qb T' L D' E' kb wb K W) (hl : L.length ≤ 134217728) (hD : D' ≤ 134217728) :
  Calls Tryz.prog 41 #[.pointer (some ⟨kb, 0, none⟩)] W fun e w' => e = .returned (.tuple #[.string (txt (packN (L.take (8 * (L.length / 8))))), .int .i64 0]) ∧ ∃ wb2, PQ w b T B D E qb T' (L.drop (8 * (L.length / 8))) (D' + 8 * (L.length / 8)) E' kb wb2 K w' :=
 h.call (fun _ _ _ hK => drain_any hK hl hD)
theorem PQ.ddrain {w W : World} {b : Bp} {T T' : List Tk} {B L : Bits} {D E qb D' E' kb wb : Nat} {K : List (Nat × Obj)} (h : PQ w b T B D E qb T' L D' E' kb wb K W) (hdr : D ≤ B.length) (hl : B.length ≤ 1073741824) :
  Calls Tryz.prog 42 #[.pointer (some ⟨qb, 0, none⟩)] W fun e w' => e = .returned (.string (txt (packN ((B.drop D).take (8 * ((B.length - D) / 8)))))) ∧ PQ w b T B (D + 8 * ((B.length - D) / 8)) E qb T' L D' E' kb wb K w' := by
 obtain ⟨row, ls, gs, vL, vC, vB, V, h1, h2, h3, h5⟩ := h
 refine (ddrain_any h1 hdr hl).mono ?_
 rintro e w' ⟨rfl, h4⟩
 exact ⟨rfl, row, ls, gs, vL, vC, vB, V, h4, h2, h3, h5⟩
theorem drain_both {w W : World} {b : Bp} {T : List Tk} {B : Bits} {D E qb kb wb : Nat} {K : List (Nat × Obj)} (h : PQ w b T B D E qb T (B.drop D) D E kb wb K W) (hD : D ≤ B.length) (hB : B.length ≤ 134217728) (h8 : D % 8 = 0) :
  ∃ sx D2, (Calls Tryz.prog 41 #[.pointer (some ⟨kb, 0, none⟩)] W fun e w' => e = .returned (.tuple #[.string sx, .int .i64 0]) ∧ ∃ wb2, PQ w b T B D E qb T (B.drop D2) D2 E kb wb2 K w') ∧
   (∀ wb2 W', PQ w b T B D E qb T (B.drop D2) D2 E kb wb2 K W' → Calls Tryz.prog 42 #[.pointer (some ⟨qb, 0, none⟩)] W' fun e w' => e = .returned (.string sx) ∧ PQ w b T B D2 E qb T (B.drop D2) D2 E kb wb2 K w') ∧ D2 % 8 = 0 ∧ D2 ≤ B.length ∧ txt (packN (B.take D)) ++ sx = txt (packN (B.take D2)) := by
 have hl : (B.drop D).length = B.length - D := List.length_drop
 obtain ⟨q, hq⟩ : ∃ q, (B.length - D) / 8 = q := ⟨_, rfl⟩
 refine ⟨txt (packN ((B.drop D).take (8 * q))), D + 8 * q, ?_, fun wb2 W' h' => ?_, by omega, by omega, ?_⟩
 ·have h1 := h.drain (by omega) (by omega)
  rw [hl, hq, List.drop_drop] at h1
  exact h1
 ·have h1 := h'.ddrain hD (by omega)
  rw [hq] at h1
  exact h1
 ·rw [txt_append, List.take_add, packN_append (D / 8) _ _ (by rw [List.length_take]; omega)]
set_option maxRecDepth 100000 in
set_option maxHeartbeats 12800000 in
theorem bvpacks_any (w : World) (hG : GL w) (haw : ∀ W, Below w.heap.size w W → Calls Tryz.prog 32 #[] W fun e w' => e = .returned (.bool true) ∧ Below W.heap.size W w')
  (a0 : Option Addr) (L : List (List Nat)) (cap : Nat) (pw pd pi pz pc : Int) (hL : LLs w a0 L) (hls : ∀ l ∈ L, l.length < 35184372088832) (_hc : L.length ≤ cap) (hl : L.length ≤ 4611686018427387903) (ad : Option Addr) (dn dc : Nat) (hD : BoV w ad dn) :
  Calls Tryz.prog 6 #[.slice a0 L.length cap, bpV pw pd pi pz pc, .slice ad dn dc] w fun e w' => e = .returned (.bool true) ∧ Below w.heap.size w w' := by
 obtain ⟨j0, hj, hj0, hj1, hj2⟩ := info_parts Tryz.infoU32
 have GW := Lib.hid hG
 have AW := Lib.hid haw
 have HL := Lib.hid hL
 have HLS := Lib.hid hls
 have HDR := Lib.hid hD
 have OW := Lib.hid (fun W => bown_any pw pd pi pz pc W)
 have DC := Lib.hid (fun W => dbcheck_any pw pd pi pz pc W)
 have PC : Hid (∀ (W : World) (pb : Nat), W.heap[pb]? = some (Obj.cells #[.int .i64 pw, .int .i64 pd, .int .i64 pi, .int .i64 pz, .int .i64 pc] 56 (0, 0)) → W.cell? ⟨pb, 0, none⟩ = some (.int .i64 pw) ∧ W.cell? ⟨pb, 1, none⟩ = some (.int .i64 pd) ∧ W.cell? ⟨pb, 2, none⟩ = some (.int .i64 pi) ∧ W.cell? ⟨pb, 3, none⟩ = some (.int .i64 pz) ∧ W.cell? ⟨pb, 4, none⟩ = some (.int .i64 pc)) := Lib.hid (fun W pb e =>
  ⟨by rw [cell_of_row _ _ _ _ _ _ e]; rfl, by rw [cell_of_row _ _ _ _ _ _ e]; rfl, by rw [cell_of_row _ _ _ _ _ _ e]; rfl, by rw [cell_of_row _ _ _ _ _ _ e]; rfl, by rw [cell_of_row _ _ _ _ _ _ e]; rfl⟩)
 have F0 := Lib.hid (FS.start w)
 by_cases hb : BpOk pw pd pi pz pc
 ·have hdp9 : pd ≤ 16 := hb.2.2.1
  obtain ⟨b, hbp, rfl, rfl, rfl, rfl, rfl⟩ := bp_nat hb
  rw [if_pos hb] at DC
  have NW := Lib.hid (fun ks W (h : FS w none none ks W) => bnew_yes b hb h)
  obtain ⟨n, hn⟩ : ∃ z, L.length = z := ⟨_, rfl⟩
  have HN := Lib.hid hn
  rw [hn] at hl ⊢
  have HB := Lib.hid (And.intro hbp (show b.depth ≤ 16 by omega))
  clear hG haw hL hls hD hb hbp hn hdp9
  obtain ⟨prow, hprow⟩ : ∃ z, #[Value.int .i64 (b.p.win : Int), .int .i64 (b.depth : Int), .int .i64 (b.p.itv : Int), .int .i64 (b.p.zet : Int), .int .i64 (b.cap : Int)] = z := ⟨_, rfl⟩
  have HPR := Lib.hid hprow
  unfold bpV at OW NW DC ⊢
  go_enter Tryz.func6, Tryz.ntmps6
  clear hprow
  go_wp2_with fail
  have f1 := F0.out.add #[.int .i64 (b.p.win : Int), .int .i64 (b.depth : Int), .int .i64 (b.p.itv : Int), .int .i64 (b.p.zet : Int), .int .i64 (b.cap : Int)] 56
  obtain ⟨pb, hpb⟩ : ∃ z, w.heap.size = z := ⟨_, rfl⟩
  rw [hpb] at f1 ⊢
  with_reducible refine (OW.out _).mono ?_
  rintro e w1 ⟨rfl, k1⟩
  have F1 := Lib.hid (f1.next k1)
  clear f1 k1
  go_wp2_with fail
  with_reducible refine (NW.out _ _ F1.out).mono ?_
  rintro e w2 ⟨kb, wb, rfl, hk2⟩
  have K2 := Lib.hid hk2
  obtain ⟨p0, p1, p2, p3, p4⟩ := PC.out w2 pb (hk2.has (List.mem_cons_self ..))
  clear hk2 F1 NW
  go_wp2_with fail
  with_reducible refine (DC.out _).mono ?_
  rintro e w3 ⟨rfl, k3⟩
  have K3 := Lib.hid (K2.out.next k3)
  obtain ⟨p0, p1, p2, p3, p4⟩ := PC.out w3 pb (K3.out.has (List.mem_cons_self ..))
  clear k3 K2
  have Q0 := Lib.hid (PQ.start K3.out)
  unfold dpRow at Q0
  obtain ⟨qb, hqb⟩ : ∃ z, w3.heap.size = z := ⟨_, rfl⟩
  go_wp2_with fail
  rw [hqb] at Q0
  generalize hw4 : World.alloc w3 _ = w4
  have Q0 : Hid (PQ w b [] [] 0 0 qb [] [] 0 0 kb wb [(pb, .cells #[.int .i64 (b.p.win : Int), .int .i64 (b.depth : Int), .int .i64 (b.p.itv : Int), .int .i64 (b.p.zet : Int), .int .i64 (b.cap : Int)] 56 (0, 0))] w4) := Lib.hid (by rw [← hw4]; exact Q0.out)
  have LI0 : Hid (LI w b 0 qb kb ⟨#[]⟩ w4) := Lib.hid ⟨[], [], 0, 0, wb, Q0.out.sub (fun p hp => by cases hp), ⟨(fun t ht => by cases ht), Nat.le_refl _, Nat.zero_le _, Nat.zero_le _, Nat.zero_le _⟩, rfl, by rw [List.take_nil, packN_nil]; rfl⟩
  clear p0 p1 p2 p3 p4 hqb K3 Q0 hw4
  go_loopw [10, 11] (fun v10 v11 wr => ∃ (i : Nat) (all : ByteArray), v10 = .string all ∧ v11 = .int .i64 (i : Int) ∧ i ≤ n ∧ i ≤ 100 ∧ LI w b i qb kb all wr) (fun _ v11 _ => 100 - (intOf v11).toNat)
  case atStart => exact ⟨0, ⟨#[]⟩, rfl, rfl, Nat.zero_le _, Nat.zero_le _, LI0.out⟩
  case round =>
   obtain ⟨i, all, rfl, rfl, hin, hi100, hLI⟩ := hrel
   by_cases hgo : i < n ∧ i < 100
   ·obtain ⟨hi1, hi2⟩ := hgo
    --A
    obtain ⟨T, B, D, E, wb, hP, hBI, hD8, hall⟩ := hLI
    have P0 := Lib.hid hP
    have I0 := Lib.hid hBI
    have HAL := Lib.hid (And.intro hD8 hall)
    have hkw := hP.below
    obtain ⟨g, o, s, d, rfl, hg, hcell, hcd, hLV⟩ := HL.out.2 i (by rw [HN.out]; exact hi1)
    have hlen := HLS.out _ (List.getElem_mem (show i < L.length by rw [HN.out]; exact hi1))
    obtain ⟨l, hl0⟩ : ∃ z, (L[i]'(by rw [HN.out]; exact hi1)) = z := ⟨_, rfl⟩
    rw [hl0] at hcell hcd hLV hlen
    obtain ⟨m, hm⟩ : ∃ z, l.length = z := ⟨_, rfl⟩
    have HM := Lib.hid hm
    rw [hm] at hcell hcd hlen
    have GC : Hid (∀ W, Below w.heap.size w W → W.cell? ⟨g, o + i, none⟩ = some (.slice s m d)) := Lib.hid (fun W k => (k.cell hg).trans hcell)
    have HLV := Lib.hid hLV
    have O1 : Hid ((wr.alloc (.cells #[] 77)).ownsRow wr.heap.size 77 1 (.slice (some ⟨wr.heap.size, 0, none⟩) 0 0) ([] : List Nat).length (u32V [])) := Lib.hid ⟨rfl, .inr ⟨wr.heap.size, 0, _, rfl, Nat.le_refl _, heap_alloc_new wr _, Nat.le_refl _, by decide, rfl, rfl⟩⟩
    have K1 : Hid (Below wr.heap.size wr (wr.alloc (.cells #[] 77))) := Lib.hid ((Below.refl _ _).alloc (Nat.le_refl _) _)
    have KW1 := Lib.hid (hkw.trans (K1.out.mono hkw.size))
    have A1 := Lib.hid (hLV.below KW1.out)
    have C5 : Hid (0 + m ≤ maxLen) := Lib.hid (by simp only [maxLen]; omega)
    have C6 : Hid ((0 + m) * 4 ≤ 140737488355328) := Lib.hid (by omega)
    have c0 := GC.out _ hkw
    have c0b := GC.out _ KW1.out
    clear hP hBI hD8 hall hkw hg hcell hLV hl0 hm
    go_wp2_with (at_builtin; refine wpList_append_lv _ rfl _ _ 34 rfl wr.heap.size 77 j0 _ 4 Tryz.underlying34 hj hj0 hj1 hj2 rfl _ 0 _ rfl O1.out s m d l rfl HM.out A1.out C5.out C6.out K1.out.size ?_)
    intro v6 w6 own6 hg6 hw6
    obtain ⟨kl, sl, dl, e6, hdl, hstl, hkl, hsh⟩ := own_kl (W := w6) (base := wr.heap.size) (v := v6) (l := l) (by rw [HM.out]; exact own6) (by rw [HM.out]; omega) (fun x hx => by
     obtain ⟨k, hk, e⟩ := List.getElem_of_mem hx
     obtain ⟨_, _, _, _, _, h⟩ := HLV.out.2 k hk
     rw [← e]; exact h)
    rw [HM.out] at e6 hdl hsh
    subst e6
    have P6 := Lib.hid (P0.out.more (K1.out.grown hg6 K1.out.size (fun k hk => (O1.out.lt k hk).1)) hkl)
    have ST6 := Lib.hid hstl
    have SH6 := Lib.hid hsh
    clear own6 hg6 hw6 hkl hstl hsh O1 K1 KW1 A1 C5 C6 c0 c0b
    obtain ⟨r, nb, ec, T2, B2, E2, hnb, hAdd, hDAdd, hBI2, htk⟩ := step_both P6.out I0.out hi2 GW.out HB.out.1 HB.out.2 sl s l dl d (by rw [HM.out]; exact hdl) (by rw [HM.out]; exact hcd) (fun W k h => ST6.out W (fun p hp => h p (List.mem_append_left _ hp))) HLV.out (by rw [HM.out]; omega)
    rw [HM.out] at hAdd hDAdd
    have AD := Lib.hid hAdd
    have DA := Lib.hid hDAdd
    have I2 := Lib.hid hBI2
    have HTK := Lib.hid htk
    have HNB := Lib.hid hnb
    clear hAdd hDAdd hBI2 htk hnb
    go_wp2_with fail
    with_reducible refine AD.out.mono ?_
    rintro e w7 ⟨rfl, wb7, h7⟩
    have P7 := Lib.hid h7
    have c7 := GC.out _ h7.below
    have DA7 := Lib.hid (DA.out wb7 w7 h7)
    clear h7 AD DA P6
    go_wp2_with fail
    with_reducible refine DA7.out.mono ?_
    rintro e w8 ⟨rfl, h8⟩
    have P8 := Lib.hid h8
    clear h8 c7 DA7 P7
    have P8b := Lib.hid (P8.out.sub (K' := kl) (fun p hp => List.mem_append_left _ hp))
    obtain ⟨aL, dL, aB, dB, q5, q7, oB⟩ := P8b.out.cells
    obtain ⟨ls8, hks8⟩ := P8b.out.ks
    have KS8 := Lib.hid hks8
    have BL8 : Hid (B2.length ≤ 134217728 ∧ D ≤ B2.length) := Lib.hid (by obtain ⟨-, e1, e2, e3, e4⟩ := I2.out; omega)
    have LEN := Lib.hid (fun W' (k : Below w8.heap.size w8 W') => (KS8.out.next k).len2)
    have BIT := Lib.hid (fun W' (k : Below w8.heap.size w8 W') => (KS8.out.next k).bits2 (by rw [List.length_drop]; have := BL8.out; omega))
    obtain ⟨nT, hnT⟩ : ∃ z, T2.length = z := ⟨_, rfl⟩
    obtain ⟨nB, hnB⟩ : ∃ z, B2.length = z := ⟨_, rfl⟩
    rw [show D + (B2.drop D).length = nB from by rw [List.length_drop, hnB]; have := BL8.out; omega] at BIT
    rw [hnT] at q5 LEN
    rw [hnB] at q7 oB
    have CF : Hid (∀ W', Below w8.heap.size w8 W' → W'.cell? ⟨qb, 5, none⟩ = some (.slice aL nT dL) ∧ W'.cell? ⟨qb, 7, none⟩ = some (.slice aB nB dB) ∧ Below w8.heap.size w8 W') := Lib.hid (fun W' k => ⟨(k.cell (World.block_lt_of_cell? _ _ q5)).trans q5, (k.cell (World.block_lt_of_cell? _ _ q7)).trans q7, k⟩)
    have KX := Lib.hid (fun W W' (h : Below w8.heap.size w8 W) (k : Below W.heap.size W W') => h.trans (k.mono h.size))
    have OB := Lib.hid oB
    have HNN := Lib.hid (And.intro hnT hnB)
    clear hks8 hnT hnB oB
    have K0 := Below.refl w8.heap.size w8
    go_upto_region 14 with fail
    go_cut [125] from 80 to 124 (fun v wc => v = .bool false ∧ Below w8.heap.size w8 wc)
    case first =>
     --B
     by_cases hz : nb = 0
     ·subst hz
      clear HNB
      refine wp_region_held_drew (S := (fun W' => W'.cell? ⟨qb, 5, none⟩ = some (.slice aL nT dL) ∧ W'.cell? ⟨qb, 7, none⟩ = some (.slice aB nB dB) ∧ Below w8.heap.size w8 W')) (by kernel_rfl) (CF.out _ (Below.drew K0)) (fun hHeld => ?_)
      refine wpAnyH_take (i := 0) (oi := { dst := some 80, op := Op.move (Operand.tmp 13), type := 3, pos := "law.go:136", after := #[], guard := none }) (v := ?_) rfl (by kernel_rfl) (by kernel_rfl) (by kernel_rfl) (fun _ _ _ h => h) (Or.inl ⟨by rfl, ?_⟩) (by assumption) ?_
      rotate_left
      ·intro w hSw; (try dsimp only at hSw); go_simp; (try with_reducible rfl)
      try simp only [Act.put, List.setIfInBounds_toArray, List.set_cons_zero, List.set_cons_succ]
      refine wpAnyH_take (i := 1) (oi := { dst := some 81, op := Op.move (Operand.tmp 16), type := 3, pos := "law.go:136", after := #[], guard := none }) (v := ?_) rfl (by kernel_rfl) (by kernel_rfl) (by kernel_rfl) (fun _ _ _ h => h) (Or.inl ⟨by rfl, ?_⟩) (by assumption) ?_
      rotate_left
      ·intro w hSw; (try dsimp only at hSw); go_simp; (try with_reducible rfl)
      try simp only [Act.put, List.setIfInBounds_toArray, List.set_cons_zero, List.set_cons_succ]
      refine wpAnyH_take (i := 2) (oi := { dst := some 82, op := Op.binOp BinOp.neq 3 (Operand.tmp 80) (Operand.tmp 81) 3, type := 4, pos := "law.go:136", after := #[{ on := 0, ground := Ground.data }, { on := 1, ground := Ground.data }], guard := none }) (v := ?_) rfl (by kernel_rfl) (by kernel_rfl) (by kernel_rfl) (fun _ _ _ h => h) (Or.inl ⟨by rfl, ?_⟩) (by assumption) ?_
      rotate_left
      ·intro w hSw; (try dsimp only at hSw); go_simp; (try with_reducible rfl)
      try simp only [Act.put, List.setIfInBounds_toArray, List.set_cons_zero, List.set_cons_succ]
      refine wpAnyH_take (i := 3) (oi := { dst := some 83, op := Op.move (Operand.tmp 82), type := 4, pos := "law.go:136", after := #[{ on := 2, ground := Ground.data }], guard := none }) (v := ?_) rfl (by kernel_rfl) (by kernel_rfl) (by kernel_rfl) (fun _ _ _ h => h) (Or.inl ⟨by rfl, ?_⟩) (by assumption) ?_
      rotate_left
      ·intro w hSw; (try dsimp only at hSw); go_simp; (try with_reducible rfl)
      try simp only [Act.put, List.setIfInBounds_toArray, List.set_cons_zero, List.set_cons_succ]
      refine wpAnyH_take (i := 4) (oi := { dst := some 84, op := Op.move (Operand.tmp 14), type := 3, pos := "law.go:136", after := #[{ on := 3, ground := Ground.guard }], guard := some (3, false) }) (v := ?_) rfl (by kernel_rfl) (by kernel_rfl) (by kernel_rfl) (fun _ _ _ h => h) (Or.inl ⟨by rfl, ?_⟩) (by assumption) ?_
      rotate_left
      ·intro w hSw; (try dsimp only at hSw); go_simp; (try with_reducible rfl)
      try simp only [Act.put, List.setIfInBounds_toArray, List.set_cons_zero, List.set_cons_succ]
      refine wpAnyH_take (i := 5) (oi := { dst := some 85, op := Op.move (Operand.tmp 17), type := 3, pos := "law.go:136", after := #[{ on := 3, ground := Ground.guard }], guard := some (3, false) }) (v := ?_) rfl (by kernel_rfl) (by kernel_rfl) (by kernel_rfl) (fun _ _ _ h => h) (Or.inl ⟨by rfl, ?_⟩) (by assumption) ?_
      rotate_left
      ·intro w hSw; (try dsimp only at hSw); go_simp; (try with_reducible rfl)
      try simp only [Act.put, List.setIfInBounds_toArray, List.set_cons_zero, List.set_cons_succ]
      refine wpAnyH_take (i := 6) (oi := { dst := some 86, op := Op.binOp BinOp.neq 3 (Operand.tmp 84) (Operand.tmp 85) 3, type := 4, pos := "law.go:136", after := #[{ on := 4, ground := Ground.data }, { on := 5, ground := Ground.data }, { on := 3, ground := Ground.guard }], guard := some (3, false) }) (v := ?_) rfl (by kernel_rfl) (by kernel_rfl) (by kernel_rfl) (fun _ _ _ h => h) (Or.inl ⟨by rfl, ?_⟩) (by assumption) ?_
      rotate_left
      ·intro w hSw; (try dsimp only at hSw); go_simp; (try with_reducible rfl)
      try simp only [Act.put, List.setIfInBounds_toArray, List.set_cons_zero, List.set_cons_succ]
      refine wpAnyH_take (i := 7) (oi := { dst := some 87, op := Op.move (Operand.tmp 86), type := 4, pos := "law.go:136", after := #[{ on := 6, ground := Ground.data }, { on := 3, ground := Ground.chain }, { on := 3, ground := Ground.guard }], guard := some (3, false) }) (v := ?_) rfl (by kernel_rfl) (by kernel_rfl) (by kernel_rfl) (fun _ _ _ h => h) (Or.inl ⟨by rfl, ?_⟩) (by assumption) ?_
      rotate_left
      ·intro w hSw; (try dsimp only at hSw); go_simp; (try with_reducible rfl)
      try simp only [Act.put, List.setIfInBounds_toArray, List.set_cons_zero, List.set_cons_succ]
      refine wpAnyH_take (i := 8) (oi := { dst := some 88, op := Op.move (Operand.tmp 18), type := 30, pos := "law.go:136", after := #[{ on := 7, ground := Ground.guard }], guard := some (7, true) }) (v := undef) rfl (by kernel_rfl) (by kernel_rfl) (by kernel_rfl) (fun _ _ _ h => h) (Or.inr ⟨by rfl, rfl⟩) (by assumption) ?_
      try simp only [Act.put, List.setIfInBounds_toArray, List.set_cons_zero, List.set_cons_succ]
      refine wpAnyH_take (i := 9) (oi := { dst := some 89, op := Op.binOp BinOp.eql 30 (Operand.tmp 88) (Operand.const (Value.int IntKind.i64 0)) 30, type := 4, pos := "law.go:136", after := #[{ on := 8, ground := Ground.data }, { on := 7, ground := Ground.guard }], guard := some (7, true) }) (v := undef) rfl (by kernel_rfl) (by kernel_rfl) (by kernel_rfl) (fun _ _ _ h => h) (Or.inr ⟨by rfl, rfl⟩) (by assumption) ?_
      try simp only [Act.put, List.setIfInBounds_toArray, List.set_cons_zero, List.set_cons_succ]
      refine wpAnyH_take (i := 10) (oi := { dst := some 90, op := Op.pick (Operand.tmp 87) (Operand.tmp 89) (Operand.const (Value.bool false)), type := 4, pos := "law.go:136", after := #[{ on := 7, ground := Ground.data }, { on := 9, ground := Ground.data }, { on := 3, ground := Ground.guard }], guard := some (3, false) }) (v := ?_) rfl (by kernel_rfl) (by kernel_rfl) (by kernel_rfl) (fun _ _ _ h => h) (Or.inl ⟨by rfl, ?_⟩) (by assumption) ?_
      rotate_left
      ·intro w hSw; (try dsimp only at hSw); go_simp; (try with_reducible rfl)
      try simp only [Act.put, List.setIfInBounds_toArray, List.set_cons_zero, List.set_cons_succ]
      refine wpAnyH_take (i := 11) (oi := { dst := some 91, op := Op.pick (Operand.tmp 83) (Operand.const (Value.bool true)) (Operand.tmp 90), type := 4, pos := "law.go:136", after := #[{ on := 3, ground := Ground.data }, { on := 10, ground := Ground.data }], guard := none }) (v := ?_) rfl (by kernel_rfl) (by kernel_rfl) (by kernel_rfl) (fun _ _ _ h => h) (Or.inl ⟨by rfl, ?_⟩) (by assumption) ?_
      rotate_left
      ·intro w hSw; (try dsimp only at hSw); go_simp; (try with_reducible rfl)
      try simp only [Act.put, List.setIfInBounds_toArray, List.set_cons_zero, List.set_cons_succ]
      refine wpAnyH_take (i := 12) (oi := { dst := some 92, op := Op.move (Operand.tmp 91), type := 4, pos := "law.go:136", after := #[{ on := 11, ground := Ground.data }, { on := 7, ground := Ground.chain }], guard := none }) (v := ?_) rfl (by kernel_rfl) (by kernel_rfl) (by kernel_rfl) (fun _ _ _ h => h) (Or.inl ⟨by rfl, ?_⟩) (by assumption) ?_
      rotate_left
      ·intro w hSw; (try dsimp only at hSw); go_simp; (try with_reducible rfl)
      try simp only [Act.put, List.setIfInBounds_toArray, List.set_cons_zero, List.set_cons_succ]
      refine wpAnyH_take (i := 13) (oi := { dst := some 93, op := Op.move (Operand.tmp 14), type := 3, pos := "law.go:136", after := #[{ on := 12, ground := Ground.guard }], guard := some (12, false) }) (v := ?_) rfl (by kernel_rfl) (by kernel_rfl) (by kernel_rfl) (fun _ _ _ h => h) (Or.inl ⟨by rfl, ?_⟩) (by assumption) ?_
      rotate_left
      ·intro w hSw; (try dsimp only at hSw); go_simp; (try with_reducible rfl)
      try simp only [Act.put, List.setIfInBounds_toArray, List.set_cons_zero, List.set_cons_succ]
      refine wpAnyH_take (i := 14) (oi := { dst := some 94, op := Op.binOp BinOp.neq 3 (Operand.tmp 93) (Operand.const (Value.int IntKind.i64 0)) 3, type := 4, pos := "law.go:136", after := #[{ on := 13, ground := Ground.data }, { on := 12, ground := Ground.guard }], guard := some (12, false) }) (v := ?_) rfl (by kernel_rfl) (by kernel_rfl) (by kernel_rfl) (fun _ _ _ h => h) (Or.inl ⟨by rfl, ?_⟩) (by assumption) ?_
      rotate_left
      ·intro w hSw; (try dsimp only at hSw); go_simp; (try with_reducible rfl)
      try simp only [Act.put, List.setIfInBounds_toArray, List.set_cons_zero, List.set_cons_succ]
      refine wpAnyH_take (i := 15) (oi := { dst := some 95, op := Op.move (Operand.tmp 94), type := 4, pos := "law.go:136", after := #[{ on := 14, ground := Ground.data }, { on := 12, ground := Ground.chain }, { on := 12, ground := Ground.guard }], guard := some (12, false) }) (v := ?_) rfl (by kernel_rfl) (by kernel_rfl) (by kernel_rfl) (fun _ _ _ h => h) (Or.inl ⟨by rfl, ?_⟩) (by assumption) ?_
      rotate_left
      ·intro w hSw; (try dsimp only at hSw); go_simp; (try with_reducible rfl)
      try simp only [Act.put, List.setIfInBounds_toArray, List.set_cons_zero, List.set_cons_succ]
      refine wpAnyH_take (i := 16) (oi := { dst := some 96, op := Op.move (Operand.tmp 18), type := 30, pos := "law.go:136", after := #[{ on := 15, ground := Ground.guard }], guard := some (15, true) }) (v := undef) rfl (by kernel_rfl) (by kernel_rfl) (by kernel_rfl) (fun _ _ _ h => h) (Or.inr ⟨by rfl, rfl⟩) (by assumption) ?_
      try simp only [Act.put, List.setIfInBounds_toArray, List.set_cons_zero, List.set_cons_succ]
      refine wpAnyH_take (i := 17) (oi := { dst := some 97, op := Op.binOp BinOp.neq 30 (Operand.tmp 96) (Operand.const (Value.int IntKind.i64 0)) 30, type := 4, pos := "law.go:136", after := #[{ on := 16, ground := Ground.data }, { on := 15, ground := Ground.guard }], guard := some (15, true) }) (v := undef) rfl (by kernel_rfl) (by kernel_rfl) (by kernel_rfl) (fun _ _ _ h => h) (Or.inr ⟨by rfl, rfl⟩) (by assumption) ?_
      try simp only [Act.put, List.setIfInBounds_toArray, List.set_cons_zero, List.set_cons_succ]
      refine wpAnyH_take (i := 18) (oi := { dst := some 98, op := Op.pick (Operand.tmp 95) (Operand.tmp 97) (Operand.const (Value.bool false)), type := 4, pos := "law.go:136", after := #[{ on := 15, ground := Ground.data }, { on := 17, ground := Ground.data }, { on := 12, ground := Ground.guard }], guard := some (12, false) }) (v := ?_) rfl (by kernel_rfl) (by kernel_rfl) (by kernel_rfl) (fun _ _ _ h => h) (Or.inl ⟨by rfl, ?_⟩) (by assumption) ?_
      rotate_left
      ·intro w hSw; (try dsimp only at hSw); go_simp; (try with_reducible rfl)
      try simp only [Act.put, List.setIfInBounds_toArray, List.set_cons_zero, List.set_cons_succ]
      refine wpAnyH_take (i := 19) (oi := { dst := some 99, op := Op.pick (Operand.tmp 92) (Operand.const (Value.bool true)) (Operand.tmp 98), type := 4, pos := "law.go:136", after := #[{ on := 12, ground := Ground.data }, { on := 18, ground := Ground.data }], guard := none }) (v := ?_) rfl (by kernel_rfl) (by kernel_rfl) (by kernel_rfl) (fun _ _ _ h => h) (Or.inl ⟨by rfl, ?_⟩) (by assumption) ?_
      rotate_left
      ·intro w hSw; (try dsimp only at hSw); go_simp; (try with_reducible rfl)
      try simp only [Act.put, List.setIfInBounds_toArray, List.set_cons_zero, List.set_cons_succ]
      refine wpAnyH_take (i := 20) (oi := { dst := some 100, op := Op.move (Operand.tmp 99), type := 4, pos := "law.go:136", after := #[{ on := 19, ground := Ground.data }, { on := 15, ground := Ground.chain }], guard := none }) (v := ?_) rfl (by kernel_rfl) (by kernel_rfl) (by kernel_rfl) (fun _ _ _ h => h) (Or.inl ⟨by rfl, ?_⟩) (by assumption) ?_
      rotate_left
      ·intro w hSw; (try dsimp only at hSw); go_simp; (try with_reducible rfl)
      try simp only [Act.put, List.setIfInBounds_toArray, List.set_cons_zero, List.set_cons_succ]
      refine wpAnyH_take (i := 21) (oi := { dst := some 101, op := Op.move (Operand.tmp 15), type := 30, pos := "law.go:136", after := #[{ on := 20, ground := Ground.guard }], guard := some (20, false) }) (v := ?_) rfl (by kernel_rfl) (by kernel_rfl) (by kernel_rfl) (fun _ _ _ h => h) (Or.inl ⟨by rfl, ?_⟩) (by assumption) ?_
      rotate_left
      ·intro w hSw; (try dsimp only at hSw); go_simp; (try with_reducible rfl)
      try simp only [Act.put, List.setIfInBounds_toArray, List.set_cons_zero, List.set_cons_succ]
      refine wpAnyH_take (i := 22) (oi := { dst := some 102, op := Op.move (Operand.tmp 18), type := 30, pos := "law.go:136", after := #[{ on := 20, ground := Ground.guard }], guard := some (20, false) }) (v := ?_) rfl (by kernel_rfl) (by kernel_rfl) (by kernel_rfl) (fun _ _ _ h => h) (Or.inl ⟨by rfl, ?_⟩) (by assumption) ?_
      rotate_left
      ·intro w hSw; (try dsimp only at hSw); go_simp; (try with_reducible rfl)
      try simp only [Act.put, List.setIfInBounds_toArray, List.set_cons_zero, List.set_cons_succ]
      refine wpAnyH_take (i := 23) (oi := { dst := some 103, op := Op.binOp BinOp.neq 30 (Operand.tmp 101) (Operand.tmp 102) 30, type := 4, pos := "law.go:136", after := #[{ on := 21, ground := Ground.data }, { on := 22, ground := Ground.data }, { on := 20, ground := Ground.guard }], guard := some (20, false) }) (v := ?_) rfl (by kernel_rfl) (by kernel_rfl) (by kernel_rfl) (fun _ _ _ h => h) (Or.inl ⟨by rfl, ?_⟩) (by assumption) ?_
      rotate_left
      ·intro w hSw; (try dsimp only at hSw); go_simp; (try with_reducible rfl)
      try simp only [Act.put, List.setIfInBounds_toArray, List.set_cons_zero, List.set_cons_succ]
      refine wpAnyH_take (i := 24) (oi := { dst := some 104, op := Op.pick (Operand.tmp 100) (Operand.const (Value.bool true)) (Operand.tmp 103), type := 4, pos := "law.go:136", after := #[{ on := 20, ground := Ground.data }, { on := 23, ground := Ground.data }], guard := none }) (v := ?_) rfl (by kernel_rfl) (by kernel_rfl) (by kernel_rfl) (fun _ _ _ h => h) (Or.inl ⟨by rfl, ?_⟩) (by assumption) ?_
      rotate_left
      ·intro w hSw; (try dsimp only at hSw); go_simp; (try with_reducible rfl)
      try simp only [Act.put, List.setIfInBounds_toArray, List.set_cons_zero, List.set_cons_succ]
      refine wpAnyH_take (i := 25) (oi := { dst := some 105, op := Op.move (Operand.tmp 104), type := 4, pos := "law.go:136", after := #[{ on := 24, ground := Ground.data }, { on := 20, ground := Ground.chain }], guard := none }) (v := ?_) rfl (by kernel_rfl) (by kernel_rfl) (by kernel_rfl) (fun _ _ _ h => h) (Or.inl ⟨by rfl, ?_⟩) (by assumption) ?_
      rotate_left
      ·intro w hSw; (try dsimp only at hSw); go_simp; (try with_reducible rfl)
      try simp only [Act.put, List.setIfInBounds_toArray, List.set_cons_zero, List.set_cons_succ]
      refine wpAnyH_take (i := 26) (oi := { dst := some 106, op := Op.move (Operand.tmp 7), type := 79, pos := "law.go:136", after := #[{ on := 25, ground := Ground.guard }], guard := some (25, false) }) (v := ?_) rfl (by kernel_rfl) (by kernel_rfl) (by kernel_rfl) (fun _ _ _ h => h) (Or.inl ⟨by rfl, ?_⟩) (by assumption) ?_
      rotate_left
      ·intro w hSw; (try dsimp only at hSw); go_simp; (try with_reducible rfl)
      try simp only [Act.put, List.setIfInBounds_toArray, List.set_cons_zero, List.set_cons_succ]
      refine wpAnyH_take (i := 28) (oi := { dst := some 108, op := Op.move (Operand.tmp 9), type := 82, pos := "law.go:136", after := #[{ on := 25, ground := Ground.guard }], guard := some (25, false) }) (v := ?_) rfl (by kernel_rfl) (by kernel_rfl) (by kernel_rfl) (fun _ _ _ h => h) (Or.inl ⟨by rfl, ?_⟩) (by assumption) ?_
      rotate_left
      ·intro w hSw; (try dsimp only at hSw); go_simp; (try with_reducible rfl)
      try simp only [Act.put, List.setIfInBounds_toArray, List.set_cons_zero, List.set_cons_succ]
      refine wpAnyH_take (i := 29) (oi := { dst := some 109, op := Op.nilCheck (Operand.tmp 108), type := 0, pos := "law.go:136", after := #[{ on := 28, ground := Ground.data }, { on := 25, ground := Ground.guard }], guard := some (25, false) }) (v := ?_) rfl (by kernel_rfl) (by kernel_rfl) (by kernel_rfl) (fun _ _ _ h => h) (Or.inl ⟨by rfl, ?_⟩) (by assumption) ?_
      rotate_left
      ·intro w hSw; (try dsimp only at hSw); go_simp; (try with_reducible rfl)
      try simp only [Act.put, List.setIfInBounds_toArray, List.set_cons_zero, List.set_cons_succ]
      refine wpAnyH_take (i := 30) (oi := { dst := some 110, op := Op.fieldAddr 87 (Operand.tmp 109) 1, type := 0, pos := "law.go:136", after := #[{ on := 29, ground := Ground.data }, { on := 25, ground := Ground.guard }], guard := some (25, false) }) (v := ?_) rfl (by kernel_rfl) (by kernel_rfl) (by kernel_rfl) (fun _ _ _ h => h) (Or.inl ⟨by rfl, ?_⟩) (by assumption) ?_
      rotate_left
      ·intro w hSw; (try dsimp only at hSw); go_simp; (try with_reducible rfl)
      try simp only [Act.put, List.setIfInBounds_toArray, List.set_cons_zero, List.set_cons_succ]
      refine wpAnyH_take (i := 31) (oi := { dst := some 111, op := Op.load 54 (Operand.tmp 110), type := 54, pos := "law.go:136", after := #[{ on := 30, ground := Ground.data }, { on := 25, ground := Ground.guard }], guard := some (25, false) }) (v := ?_) rfl (by kernel_rfl) (by kernel_rfl) (by kernel_rfl) (fun _ _ _ h => h) (Or.inl ⟨by rfl, ?_⟩) (by assumption) ?_
      rotate_left
      ·intro w hSw; (try dsimp only at hSw); go_simp; (try with_reducible rfl)
      try simp only [Act.put, List.setIfInBounds_toArray, List.set_cons_zero, List.set_cons_succ]
      refine wpAnyH_take (i := 32) (oi := { dst := some 112, op := Op.call { callee := Callee.builtin Builtin.len, args := #[Operand.tmp 111], argTypes := #[54] }, type := 3, pos := "law.go:136", after := #[{ on := 31, ground := Ground.data }, { on := 25, ground := Ground.guard }], guard := some (25, false) }) (v := ?_) rfl (by kernel_rfl) (by kernel_rfl) (by kernel_rfl) (fun _ _ _ h => h) (Or.inl ⟨by rfl, ?_⟩) (by assumption) ?_
      rotate_left
      ·intro w hSw; (try dsimp only at hSw); go_simp; (try with_reducible rfl)
      try simp only [Act.put, List.setIfInBounds_toArray, List.set_cons_zero, List.set_cons_succ]
      have k0d : Below w8.heap.size w8 w8.drew := Below.drew K0
      refine wpAnyH_ready (rs := [27]) (by kernel_rfl) (by simp) ?_
      refine AllReadyH.cons (o := { dst := some 107, op := Op.call { callee := Callee.value (Operand.func 39), args := #[Operand.tmp 106], argTypes := #[79] }, type := 3, pos := "law.go:136", after := #[{ on := 26, ground := Ground.data }, { on := 25, ground := Ground.chain }, { on := 25, ground := Ground.guard }], guard := some (25, false) }) rfl (fun KK hKK => ?_) AllReadyH.nil
      go_simp
      go_at_call 39
      with_reducible refine (LEN.out _ k0d).mono ?_
      rintro e w11 ⟨rfl, kn1⟩
      have k1 := KX.out _ _ k0d kn1
      clear kn1
      try dsimp only
      refine hKK.out _ _ (CF.out _ k1) (fun hHeld => ?_)
      clear hKK KK
      try simp only [Act.put, List.setIfInBounds_toArray, List.set_cons_zero, List.set_cons_succ]
      refine wpAnyH_take (i := 33) (oi := { dst := some 113, op := Op.binOp BinOp.neq 3 (Operand.tmp 107) (Operand.tmp 112) 3, type := 4, pos := "law.go:136", after := #[{ on := 27, ground := Ground.data }, { on := 32, ground := Ground.data }, { on := 25, ground := Ground.guard }], guard := some (25, false) }) (v := ?_) rfl (by kernel_rfl) (by kernel_rfl) (by kernel_rfl) (fun _ _ _ h => h) (Or.inl ⟨by rfl, ?_⟩) (by assumption) ?_
      rotate_left
      ·intro w hSw; (try dsimp only at hSw); go_simp; (try with_reducible rfl)
      try simp only [Act.put, List.setIfInBounds_toArray, List.set_cons_zero, List.set_cons_succ]
      refine wpAnyH_take (i := 34) (oi := { dst := some 114, op := Op.pick (Operand.tmp 105) (Operand.const (Value.bool true)) (Operand.tmp 113), type := 4, pos := "law.go:136", after := #[{ on := 25, ground := Ground.data }, { on := 33, ground := Ground.data }], guard := none }) (v := ?_) rfl (by kernel_rfl) (by kernel_rfl) (by kernel_rfl) (fun _ _ _ h => h) (Or.inl ⟨by rfl, ?_⟩) (by assumption) ?_
      rotate_left
      ·intro w hSw; (try dsimp only at hSw); go_simp; (try with_reducible rfl)
      try simp only [Act.put, List.setIfInBounds_toArray, List.set_cons_zero, List.set_cons_succ]
      refine wpAnyH_take (i := 35) (oi := { dst := some 115, op := Op.move (Operand.tmp 114), type := 4, pos := "law.go:136", after := #[{ on := 34, ground := Ground.data }, { on := 27, ground := Ground.chain }], guard := none }) (v := ?_) rfl (by kernel_rfl) (by kernel_rfl) (by kernel_rfl) (fun _ _ _ h => h) (Or.inl ⟨by rfl, ?_⟩) (by assumption) ?_
      rotate_left
      ·intro w hSw; (try dsimp only at hSw); go_simp; (try with_reducible rfl)
      try simp only [Act.put, List.setIfInBounds_toArray, List.set_cons_zero, List.set_cons_succ]
      refine wpAnyH_take (i := 36) (oi := { dst := some 116, op := Op.move (Operand.tmp 7), type := 79, pos := "law.go:136", after := #[{ on := 35, ground := Ground.guard }], guard := some (35, false) }) (v := ?_) rfl (by kernel_rfl) (by kernel_rfl) (by kernel_rfl) (fun _ _ _ h => h) (Or.inl ⟨by rfl, ?_⟩) (by assumption) ?_
      rotate_left
      ·intro w hSw; (try dsimp only at hSw); go_simp; (try with_reducible rfl)
      try simp only [Act.put, List.setIfInBounds_toArray, List.set_cons_zero, List.set_cons_succ]
      refine wpAnyH_take (i := 38) (oi := { dst := some 118, op := Op.move (Operand.tmp 9), type := 82, pos := "law.go:136", after := #[{ on := 35, ground := Ground.guard }], guard := some (35, false) }) (v := ?_) rfl (by kernel_rfl) (by kernel_rfl) (by kernel_rfl) (fun _ _ _ h => h) (Or.inl ⟨by rfl, ?_⟩) (by assumption) ?_
      rotate_left
      ·intro w hSw; (try dsimp only at hSw); go_simp; (try with_reducible rfl)
      try simp only [Act.put, List.setIfInBounds_toArray, List.set_cons_zero, List.set_cons_succ]
      refine wpAnyH_take (i := 39) (oi := { dst := some 119, op := Op.nilCheck (Operand.tmp 118), type := 0, pos := "law.go:136", after := #[{ on := 38, ground := Ground.data }, { on := 35, ground := Ground.guard }], guard := some (35, false) }) (v := ?_) rfl (by kernel_rfl) (by kernel_rfl) (by kernel_rfl) (fun _ _ _ h => h) (Or.inl ⟨by rfl, ?_⟩) (by assumption) ?_
      rotate_left
      ·intro w hSw; (try dsimp only at hSw); go_simp; (try with_reducible rfl)
      try simp only [Act.put, List.setIfInBounds_toArray, List.set_cons_zero, List.set_cons_succ]
      refine wpAnyH_take (i := 40) (oi := { dst := some 120, op := Op.fieldAddr 87 (Operand.tmp 119) 3, type := 0, pos := "law.go:136", after := #[{ on := 39, ground := Ground.data }, { on := 35, ground := Ground.guard }], guard := some (35, false) }) (v := ?_) rfl (by kernel_rfl) (by kernel_rfl) (by kernel_rfl) (fun _ _ _ h => h) (Or.inl ⟨by rfl, ?_⟩) (by assumption) ?_
      rotate_left
      ·intro w hSw; (try dsimp only at hSw); go_simp; (try with_reducible rfl)
      try simp only [Act.put, List.setIfInBounds_toArray, List.set_cons_zero, List.set_cons_succ]
      refine wpAnyH_take (i := 41) (oi := { dst := some 121, op := Op.fieldAddr 85 (Operand.tmp 120) 0, type := 0, pos := "law.go:136", after := #[{ on := 40, ground := Ground.data }, { on := 35, ground := Ground.guard }], guard := some (35, false) }) (v := ?_) rfl (by kernel_rfl) (by kernel_rfl) (by kernel_rfl) (fun _ _ _ h => h) (Or.inl ⟨by rfl, ?_⟩) (by assumption) ?_
      rotate_left
      ·intro w hSw; (try dsimp only at hSw); go_simp; (try with_reducible rfl)
      try simp only [Act.put, List.setIfInBounds_toArray, List.set_cons_zero, List.set_cons_succ]
      refine wpAnyH_take (i := 42) (oi := { dst := some 122, op := Op.load 26 (Operand.tmp 121), type := 26, pos := "law.go:136", after := #[{ on := 41, ground := Ground.data }, { on := 35, ground := Ground.guard }], guard := some (35, false) }) (v := ?_) rfl (by kernel_rfl) (by kernel_rfl) (by kernel_rfl) (fun _ _ _ h => h) (Or.inl ⟨by rfl, ?_⟩) (by assumption) ?_
      rotate_left
      ·intro w hSw; (try dsimp only at hSw); go_simp; (try with_reducible rfl)
      try simp only [Act.put, List.setIfInBounds_toArray, List.set_cons_zero, List.set_cons_succ]
      refine wpAnyH_take (i := 43) (oi := { dst := some 123, op := Op.call { callee := Callee.builtin Builtin.len, args := #[Operand.tmp 122], argTypes := #[26] }, type := 3, pos := "law.go:136", after := #[{ on := 42, ground := Ground.data }, { on := 35, ground := Ground.guard }], guard := some (35, false) }) (v := ?_) rfl (by kernel_rfl) (by kernel_rfl) (by kernel_rfl) (fun _ _ _ h => h) (Or.inl ⟨by rfl, ?_⟩) (by assumption) ?_
      rotate_left
      ·intro w hSw; (try dsimp only at hSw); go_simp; (try with_reducible rfl)
      try simp only [Act.put, List.setIfInBounds_toArray, List.set_cons_zero, List.set_cons_succ]
      refine wpAnyH_ready (rs := [37]) (by kernel_rfl) (by simp) ?_
      refine AllReadyH.cons (o := { dst := some 117, op := Op.call { callee := Callee.value (Operand.func 40), args := #[Operand.tmp 116], argTypes := #[79] }, type := 3, pos := "law.go:136", after := #[{ on := 36, ground := Ground.data }, { on := 35, ground := Ground.chain }, { on := 35, ground := Ground.guard }], guard := some (35, false) }) rfl (fun KK hKK => ?_) AllReadyH.nil
      go_simp
      go_at_call 40
      with_reducible refine (BIT.out _ k1).mono ?_
      rintro e w12 ⟨rfl, kn2⟩
      have k2 := KX.out _ _ k1 kn2
      clear kn2
      try dsimp only
      refine hKK.out _ _ (CF.out _ k2) (fun hHeld => ?_)
      clear hKK KK
      try simp only [Act.put, List.setIfInBounds_toArray, List.set_cons_zero, List.set_cons_succ]
      refine wpAnyH_take (i := 44) (oi := { dst := some 124, op := Op.binOp BinOp.neq 3 (Operand.tmp 117) (Operand.tmp 123) 3, type := 4, pos := "law.go:136", after := #[{ on := 37, ground := Ground.data }, { on := 43, ground := Ground.data }, { on := 35, ground := Ground.guard }], guard := some (35, false) }) (v := ?_) rfl (by kernel_rfl) (by kernel_rfl) (by kernel_rfl) (fun _ _ _ h => h) (Or.inl ⟨by rfl, ?_⟩) (by assumption) ?_
      rotate_left
      ·intro w hSw; (try dsimp only at hSw); go_simp; (try with_reducible rfl)
      try simp only [Act.put, List.setIfInBounds_toArray, List.set_cons_zero, List.set_cons_succ]
      refine wpAnyH_take (i := 45) (oi := { dst := some 125, op := Op.pick (Operand.tmp 115) (Operand.const (Value.bool true)) (Operand.tmp 124), type := 4, pos := "law.go:136", after := #[{ on := 35, ground := Ground.data }, { on := 44, ground := Ground.data }], guard := none }) (v := ?_) rfl (by kernel_rfl) (by kernel_rfl) (by kernel_rfl) (fun _ _ _ h => h) (Or.inl ⟨by rfl, ?_⟩) (by assumption) ?_
      rotate_left
      ·intro w hSw; (try dsimp only at hSw); go_simp; (try with_reducible rfl)
      try simp only [Act.put, List.setIfInBounds_toArray, List.set_cons_zero, List.set_cons_succ]
      refine wpAnyH_done (by kernel_rfl) ?_ _
      go_wp2_with fail
      go_meet
      case rel => exact ⟨rfl, k2⟩
     ·have hec : ec = 0 := by
       by_cases h : ec = 0
       ·exact h
       ·exact absurd (HNB.out h) hz
      subst hec
      have hzb : (nb == 0) = false := beq_eq_false_iff_ne.2 hz
      clear HNB
      refine wp_region_held_drew (S := (fun W' => W'.cell? ⟨qb, 5, none⟩ = some (.slice aL nT dL) ∧ W'.cell? ⟨qb, 7, none⟩ = some (.slice aB nB dB) ∧ Below w8.heap.size w8 W')) (by kernel_rfl) (CF.out _ (Below.drew K0)) (fun hHeld => ?_)
      refine wpAnyH_take (i := 0) (oi := { dst := some 80, op := Op.move (Operand.tmp 13), type := 3, pos := "law.go:136", after := #[], guard := none }) (v := ?_) rfl (by kernel_rfl) (by kernel_rfl) (by kernel_rfl) (fun _ _ _ h => h) (Or.inl ⟨by rfl, ?_⟩) (by assumption) ?_
      rotate_left
      ·intro w hSw; (try dsimp only at hSw); go_simp; (try with_reducible rfl)
      try simp only [Act.put, List.setIfInBounds_toArray, List.set_cons_zero, List.set_cons_succ]
      refine wpAnyH_take (i := 1) (oi := { dst := some 81, op := Op.move (Operand.tmp 16), type := 3, pos := "law.go:136", after := #[], guard := none }) (v := ?_) rfl (by kernel_rfl) (by kernel_rfl) (by kernel_rfl) (fun _ _ _ h => h) (Or.inl ⟨by rfl, ?_⟩) (by assumption) ?_
      rotate_left
      ·intro w hSw; (try dsimp only at hSw); go_simp; (try with_reducible rfl)
      try simp only [Act.put, List.setIfInBounds_toArray, List.set_cons_zero, List.set_cons_succ]
      refine wpAnyH_take (i := 2) (oi := { dst := some 82, op := Op.binOp BinOp.neq 3 (Operand.tmp 80) (Operand.tmp 81) 3, type := 4, pos := "law.go:136", after := #[{ on := 0, ground := Ground.data }, { on := 1, ground := Ground.data }], guard := none }) (v := ?_) rfl (by kernel_rfl) (by kernel_rfl) (by kernel_rfl) (fun _ _ _ h => h) (Or.inl ⟨by rfl, ?_⟩) (by assumption) ?_
      rotate_left
      ·intro w hSw; (try dsimp only at hSw); go_simp; (try with_reducible rfl)
      try simp only [Act.put, List.setIfInBounds_toArray, List.set_cons_zero, List.set_cons_succ]
      refine wpAnyH_take (i := 3) (oi := { dst := some 83, op := Op.move (Operand.tmp 82), type := 4, pos := "law.go:136", after := #[{ on := 2, ground := Ground.data }], guard := none }) (v := ?_) rfl (by kernel_rfl) (by kernel_rfl) (by kernel_rfl) (fun _ _ _ h => h) (Or.inl ⟨by rfl, ?_⟩) (by assumption) ?_
      rotate_left
      ·intro w hSw; (try dsimp only at hSw); go_simp; (try with_reducible rfl)
      try simp only [Act.put, List.setIfInBounds_toArray, List.set_cons_zero, List.set_cons_succ]
      refine wpAnyH_take (i := 4) (oi := { dst := some 84, op := Op.move (Operand.tmp 14), type := 3, pos := "law.go:136", after := #[{ on := 3, ground := Ground.guard }], guard := some (3, false) }) (v := ?_) rfl (by kernel_rfl) (by kernel_rfl) (by kernel_rfl) (fun _ _ _ h => h) (Or.inl ⟨by rfl, ?_⟩) (by assumption) ?_
      rotate_left
      ·intro w hSw; (try dsimp only at hSw); go_simp; (try with_reducible rfl)
      try simp only [Act.put, List.setIfInBounds_toArray, List.set_cons_zero, List.set_cons_succ]
      refine wpAnyH_take (i := 5) (oi := { dst := some 85, op := Op.move (Operand.tmp 17), type := 3, pos := "law.go:136", after := #[{ on := 3, ground := Ground.guard }], guard := some (3, false) }) (v := ?_) rfl (by kernel_rfl) (by kernel_rfl) (by kernel_rfl) (fun _ _ _ h => h) (Or.inl ⟨by rfl, ?_⟩) (by assumption) ?_
      rotate_left
      ·intro w hSw; (try dsimp only at hSw); go_simp; (try with_reducible rfl)
      try simp only [Act.put, List.setIfInBounds_toArray, List.set_cons_zero, List.set_cons_succ]
      refine wpAnyH_take (i := 6) (oi := { dst := some 86, op := Op.binOp BinOp.neq 3 (Operand.tmp 84) (Operand.tmp 85) 3, type := 4, pos := "law.go:136", after := #[{ on := 4, ground := Ground.data }, { on := 5, ground := Ground.data }, { on := 3, ground := Ground.guard }], guard := some (3, false) }) (v := ?_) rfl (by kernel_rfl) (by kernel_rfl) (by kernel_rfl) (fun _ _ _ h => h) (Or.inl ⟨by rfl, ?_⟩) (by assumption) ?_
      rotate_left
      ·intro w hSw; (try dsimp only at hSw); go_simp; (try with_reducible rfl)
      try simp only [Act.put, List.setIfInBounds_toArray, List.set_cons_zero, List.set_cons_succ]
      refine wpAnyH_take (i := 7) (oi := { dst := some 87, op := Op.move (Operand.tmp 86), type := 4, pos := "law.go:136", after := #[{ on := 6, ground := Ground.data }, { on := 3, ground := Ground.chain }, { on := 3, ground := Ground.guard }], guard := some (3, false) }) (v := ?_) rfl (by kernel_rfl) (by kernel_rfl) (by kernel_rfl) (fun _ _ _ h => h) (Or.inl ⟨by rfl, ?_⟩) (by assumption) ?_
      rotate_left
      ·intro w hSw; (try dsimp only at hSw); go_simp; (try with_reducible rfl)
      try simp only [Act.put, List.setIfInBounds_toArray, List.set_cons_zero, List.set_cons_succ]
      refine wpAnyH_take (i := 8) (oi := { dst := some 88, op := Op.move (Operand.tmp 18), type := 30, pos := "law.go:136", after := #[{ on := 7, ground := Ground.guard }], guard := some (7, true) }) (v := undef) rfl (by kernel_rfl) (by kernel_rfl) (by kernel_rfl) (fun _ _ _ h => h) (Or.inr ⟨by rfl, rfl⟩) (by assumption) ?_
      try simp only [Act.put, List.setIfInBounds_toArray, List.set_cons_zero, List.set_cons_succ]
      refine wpAnyH_take (i := 9) (oi := { dst := some 89, op := Op.binOp BinOp.eql 30 (Operand.tmp 88) (Operand.const (Value.int IntKind.i64 0)) 30, type := 4, pos := "law.go:136", after := #[{ on := 8, ground := Ground.data }, { on := 7, ground := Ground.guard }], guard := some (7, true) }) (v := undef) rfl (by kernel_rfl) (by kernel_rfl) (by kernel_rfl) (fun _ _ _ h => h) (Or.inr ⟨by rfl, rfl⟩) (by assumption) ?_
      try simp only [Act.put, List.setIfInBounds_toArray, List.set_cons_zero, List.set_cons_succ]
      refine wpAnyH_take (i := 10) (oi := { dst := some 90, op := Op.pick (Operand.tmp 87) (Operand.tmp 89) (Operand.const (Value.bool false)), type := 4, pos := "law.go:136", after := #[{ on := 7, ground := Ground.data }, { on := 9, ground := Ground.data }, { on := 3, ground := Ground.guard }], guard := some (3, false) }) (v := ?_) rfl (by kernel_rfl) (by kernel_rfl) (by kernel_rfl) (fun _ _ _ h => h) (Or.inl ⟨by rfl, ?_⟩) (by assumption) ?_
      rotate_left
      ·intro w hSw; (try dsimp only at hSw); go_simp; (try with_reducible rfl)
      try simp only [Act.put, List.setIfInBounds_toArray, List.set_cons_zero, List.set_cons_succ]
      refine wpAnyH_take (i := 11) (oi := { dst := some 91, op := Op.pick (Operand.tmp 83) (Operand.const (Value.bool true)) (Operand.tmp 90), type := 4, pos := "law.go:136", after := #[{ on := 3, ground := Ground.data }, { on := 10, ground := Ground.data }], guard := none }) (v := ?_) rfl (by kernel_rfl) (by kernel_rfl) (by kernel_rfl) (fun _ _ _ h => h) (Or.inl ⟨by rfl, ?_⟩) (by assumption) ?_
      rotate_left
      ·intro w hSw; (try dsimp only at hSw); go_simp; (try with_reducible rfl)
      try simp only [Act.put, List.setIfInBounds_toArray, List.set_cons_zero, List.set_cons_succ]
      refine wpAnyH_take (i := 12) (oi := { dst := some 92, op := Op.move (Operand.tmp 91), type := 4, pos := "law.go:136", after := #[{ on := 11, ground := Ground.data }, { on := 7, ground := Ground.chain }], guard := none }) (v := ?_) rfl (by kernel_rfl) (by kernel_rfl) (by kernel_rfl) (fun _ _ _ h => h) (Or.inl ⟨by rfl, ?_⟩) (by assumption) ?_
      rotate_left
      ·intro w hSw; (try dsimp only at hSw); go_simp; (try with_reducible rfl)
      try simp only [Act.put, List.setIfInBounds_toArray, List.set_cons_zero, List.set_cons_succ]
      refine wpAnyH_take (i := 13) (oi := { dst := some 93, op := Op.move (Operand.tmp 14), type := 3, pos := "law.go:136", after := #[{ on := 12, ground := Ground.guard }], guard := some (12, false) }) (v := ?_) rfl (by kernel_rfl) (by kernel_rfl) (by kernel_rfl) (fun _ _ _ h => h) (Or.inl ⟨by rfl, ?_⟩) (by assumption) ?_
      rotate_left
      ·intro w hSw; (try dsimp only at hSw); go_simp; (try with_reducible rfl)
      try simp only [Act.put, List.setIfInBounds_toArray, List.set_cons_zero, List.set_cons_succ]
      refine wpAnyH_take (i := 14) (oi := { dst := some 94, op := Op.binOp BinOp.neq 3 (Operand.tmp 93) (Operand.const (Value.int IntKind.i64 0)) 3, type := 4, pos := "law.go:136", after := #[{ on := 13, ground := Ground.data }, { on := 12, ground := Ground.guard }], guard := some (12, false) }) (v := ?_) rfl (by kernel_rfl) (by kernel_rfl) (by kernel_rfl) (fun _ _ _ h => h) (Or.inl ⟨by rfl, ?_⟩) (by assumption) ?_
      rotate_left
      ·intro w hSw; (try dsimp only at hSw); go_simp; (try with_reducible rfl)
      try simp only [Act.put, List.setIfInBounds_toArray, List.set_cons_zero, List.set_cons_succ]
      try simp only [bne, hzb, Bool.not_false]
      refine wpAnyH_take (i := 15) (oi := { dst := some 95, op := Op.move (Operand.tmp 94), type := 4, pos := "law.go:136", after := #[{ on := 14, ground := Ground.data }, { on := 12, ground := Ground.chain }, { on := 12, ground := Ground.guard }], guard := some (12, false) }) (v := ?_) rfl (by kernel_rfl) (by kernel_rfl) (by kernel_rfl) (fun _ _ _ h => h) (Or.inl ⟨by rfl, ?_⟩) (by assumption) ?_
      rotate_left
      ·intro w hSw; (try dsimp only at hSw); go_simp; (try with_reducible rfl)
      try simp only [Act.put, List.setIfInBounds_toArray, List.set_cons_zero, List.set_cons_succ]
      refine wpAnyH_take (i := 16) (oi := { dst := some 96, op := Op.move (Operand.tmp 18), type := 30, pos := "law.go:136", after := #[{ on := 15, ground := Ground.guard }], guard := some (15, true) }) (v := ?_) rfl (by kernel_rfl) (by kernel_rfl) (by kernel_rfl) (fun _ _ _ h => h) (Or.inl ⟨by rfl, ?_⟩) (by assumption) ?_
      rotate_left
      ·intro w hSw; (try dsimp only at hSw); go_simp; (try with_reducible rfl)
      try simp only [Act.put, List.setIfInBounds_toArray, List.set_cons_zero, List.set_cons_succ]
      refine wpAnyH_take (i := 17) (oi := { dst := some 97, op := Op.binOp BinOp.neq 30 (Operand.tmp 96) (Operand.const (Value.int IntKind.i64 0)) 30, type := 4, pos := "law.go:136", after := #[{ on := 16, ground := Ground.data }, { on := 15, ground := Ground.guard }], guard := some (15, true) }) (v := ?_) rfl (by kernel_rfl) (by kernel_rfl) (by kernel_rfl) (fun _ _ _ h => h) (Or.inl ⟨by rfl, ?_⟩) (by assumption) ?_
      rotate_left
      ·intro w hSw; (try dsimp only at hSw); go_simp; (try with_reducible rfl)
      try simp only [Act.put, List.setIfInBounds_toArray, List.set_cons_zero, List.set_cons_succ]
      refine wpAnyH_take (i := 18) (oi := { dst := some 98, op := Op.pick (Operand.tmp 95) (Operand.tmp 97) (Operand.const (Value.bool false)), type := 4, pos := "law.go:136", after := #[{ on := 15, ground := Ground.data }, { on := 17, ground := Ground.data }, { on := 12, ground := Ground.guard }], guard := some (12, false) }) (v := ?_) rfl (by kernel_rfl) (by kernel_rfl) (by kernel_rfl) (fun _ _ _ h => h) (Or.inl ⟨by rfl, ?_⟩) (by assumption) ?_
      rotate_left
      ·intro w hSw; (try dsimp only at hSw); go_simp; (try with_reducible rfl)
      try simp only [Act.put, List.setIfInBounds_toArray, List.set_cons_zero, List.set_cons_succ]
      refine wpAnyH_take (i := 19) (oi := { dst := some 99, op := Op.pick (Operand.tmp 92) (Operand.const (Value.bool true)) (Operand.tmp 98), type := 4, pos := "law.go:136", after := #[{ on := 12, ground := Ground.data }, { on := 18, ground := Ground.data }], guard := none }) (v := ?_) rfl (by kernel_rfl) (by kernel_rfl) (by kernel_rfl) (fun _ _ _ h => h) (Or.inl ⟨by rfl, ?_⟩) (by assumption) ?_
      rotate_left
      ·intro w hSw; (try dsimp only at hSw); go_simp; (try with_reducible rfl)
      try simp only [Act.put, List.setIfInBounds_toArray, List.set_cons_zero, List.set_cons_succ]
      refine wpAnyH_take (i := 20) (oi := { dst := some 100, op := Op.move (Operand.tmp 99), type := 4, pos := "law.go:136", after := #[{ on := 19, ground := Ground.data }, { on := 15, ground := Ground.chain }], guard := none }) (v := ?_) rfl (by kernel_rfl) (by kernel_rfl) (by kernel_rfl) (fun _ _ _ h => h) (Or.inl ⟨by rfl, ?_⟩) (by assumption) ?_
      rotate_left
      ·intro w hSw; (try dsimp only at hSw); go_simp; (try with_reducible rfl)
      try simp only [Act.put, List.setIfInBounds_toArray, List.set_cons_zero, List.set_cons_succ]
      refine wpAnyH_take (i := 21) (oi := { dst := some 101, op := Op.move (Operand.tmp 15), type := 30, pos := "law.go:136", after := #[{ on := 20, ground := Ground.guard }], guard := some (20, false) }) (v := ?_) rfl (by kernel_rfl) (by kernel_rfl) (by kernel_rfl) (fun _ _ _ h => h) (Or.inl ⟨by rfl, ?_⟩) (by assumption) ?_
      rotate_left
      ·intro w hSw; (try dsimp only at hSw); go_simp; (try with_reducible rfl)
      try simp only [Act.put, List.setIfInBounds_toArray, List.set_cons_zero, List.set_cons_succ]
      refine wpAnyH_take (i := 22) (oi := { dst := some 102, op := Op.move (Operand.tmp 18), type := 30, pos := "law.go:136", after := #[{ on := 20, ground := Ground.guard }], guard := some (20, false) }) (v := ?_) rfl (by kernel_rfl) (by kernel_rfl) (by kernel_rfl) (fun _ _ _ h => h) (Or.inl ⟨by rfl, ?_⟩) (by assumption) ?_
      rotate_left
      ·intro w hSw; (try dsimp only at hSw); go_simp; (try with_reducible rfl)
      try simp only [Act.put, List.setIfInBounds_toArray, List.set_cons_zero, List.set_cons_succ]
      refine wpAnyH_take (i := 23) (oi := { dst := some 103, op := Op.binOp BinOp.neq 30 (Operand.tmp 101) (Operand.tmp 102) 30, type := 4, pos := "law.go:136", after := #[{ on := 21, ground := Ground.data }, { on := 22, ground := Ground.data }, { on := 20, ground := Ground.guard }], guard := some (20, false) }) (v := ?_) rfl (by kernel_rfl) (by kernel_rfl) (by kernel_rfl) (fun _ _ _ h => h) (Or.inl ⟨by rfl, ?_⟩) (by assumption) ?_
      rotate_left
      ·intro w hSw; (try dsimp only at hSw); go_simp; (try with_reducible rfl)
      try simp only [Act.put, List.setIfInBounds_toArray, List.set_cons_zero, List.set_cons_succ]
      refine wpAnyH_take (i := 24) (oi := { dst := some 104, op := Op.pick (Operand.tmp 100) (Operand.const (Value.bool true)) (Operand.tmp 103), type := 4, pos := "law.go:136", after := #[{ on := 20, ground := Ground.data }, { on := 23, ground := Ground.data }], guard := none }) (v := ?_) rfl (by kernel_rfl) (by kernel_rfl) (by kernel_rfl) (fun _ _ _ h => h) (Or.inl ⟨by rfl, ?_⟩) (by assumption) ?_
      rotate_left
      ·intro w hSw; (try dsimp only at hSw); go_simp; (try with_reducible rfl)
      try simp only [Act.put, List.setIfInBounds_toArray, List.set_cons_zero, List.set_cons_succ]
      refine wpAnyH_take (i := 25) (oi := { dst := some 105, op := Op.move (Operand.tmp 104), type := 4, pos := "law.go:136", after := #[{ on := 24, ground := Ground.data }, { on := 20, ground := Ground.chain }], guard := none }) (v := ?_) rfl (by kernel_rfl) (by kernel_rfl) (by kernel_rfl) (fun _ _ _ h => h) (Or.inl ⟨by rfl, ?_⟩) (by assumption) ?_
      rotate_left
      ·intro w hSw; (try dsimp only at hSw); go_simp; (try with_reducible rfl)
      try simp only [Act.put, List.setIfInBounds_toArray, List.set_cons_zero, List.set_cons_succ]
      refine wpAnyH_take (i := 26) (oi := { dst := some 106, op := Op.move (Operand.tmp 7), type := 79, pos := "law.go:136", after := #[{ on := 25, ground := Ground.guard }], guard := some (25, false) }) (v := ?_) rfl (by kernel_rfl) (by kernel_rfl) (by kernel_rfl) (fun _ _ _ h => h) (Or.inl ⟨by rfl, ?_⟩) (by assumption) ?_
      rotate_left
      ·intro w hSw; (try dsimp only at hSw); go_simp; (try with_reducible rfl)
      try simp only [Act.put, List.setIfInBounds_toArray, List.set_cons_zero, List.set_cons_succ]
      refine wpAnyH_take (i := 28) (oi := { dst := some 108, op := Op.move (Operand.tmp 9), type := 82, pos := "law.go:136", after := #[{ on := 25, ground := Ground.guard }], guard := some (25, false) }) (v := ?_) rfl (by kernel_rfl) (by kernel_rfl) (by kernel_rfl) (fun _ _ _ h => h) (Or.inl ⟨by rfl, ?_⟩) (by assumption) ?_
      rotate_left
      ·intro w hSw; (try dsimp only at hSw); go_simp; (try with_reducible rfl)
      try simp only [Act.put, List.setIfInBounds_toArray, List.set_cons_zero, List.set_cons_succ]
      refine wpAnyH_take (i := 29) (oi := { dst := some 109, op := Op.nilCheck (Operand.tmp 108), type := 0, pos := "law.go:136", after := #[{ on := 28, ground := Ground.data }, { on := 25, ground := Ground.guard }], guard := some (25, false) }) (v := ?_) rfl (by kernel_rfl) (by kernel_rfl) (by kernel_rfl) (fun _ _ _ h => h) (Or.inl ⟨by rfl, ?_⟩) (by assumption) ?_
      rotate_left
      ·intro w hSw; (try dsimp only at hSw); go_simp; (try with_reducible rfl)
      try simp only [Act.put, List.setIfInBounds_toArray, List.set_cons_zero, List.set_cons_succ]
      refine wpAnyH_take (i := 30) (oi := { dst := some 110, op := Op.fieldAddr 87 (Operand.tmp 109) 1, type := 0, pos := "law.go:136", after := #[{ on := 29, ground := Ground.data }, { on := 25, ground := Ground.guard }], guard := some (25, false) }) (v := ?_) rfl (by kernel_rfl) (by kernel_rfl) (by kernel_rfl) (fun _ _ _ h => h) (Or.inl ⟨by rfl, ?_⟩) (by assumption) ?_
      rotate_left
      ·intro w hSw; (try dsimp only at hSw); go_simp; (try with_reducible rfl)
      try simp only [Act.put, List.setIfInBounds_toArray, List.set_cons_zero, List.set_cons_succ]
      refine wpAnyH_take (i := 31) (oi := { dst := some 111, op := Op.load 54 (Operand.tmp 110), type := 54, pos := "law.go:136", after := #[{ on := 30, ground := Ground.data }, { on := 25, ground := Ground.guard }], guard := some (25, false) }) (v := ?_) rfl (by kernel_rfl) (by kernel_rfl) (by kernel_rfl) (fun _ _ _ h => h) (Or.inl ⟨by rfl, ?_⟩) (by assumption) ?_
      rotate_left
      ·intro w hSw; (try dsimp only at hSw); go_simp; (try with_reducible rfl)
      try simp only [Act.put, List.setIfInBounds_toArray, List.set_cons_zero, List.set_cons_succ]
      refine wpAnyH_take (i := 32) (oi := { dst := some 112, op := Op.call { callee := Callee.builtin Builtin.len, args := #[Operand.tmp 111], argTypes := #[54] }, type := 3, pos := "law.go:136", after := #[{ on := 31, ground := Ground.data }, { on := 25, ground := Ground.guard }], guard := some (25, false) }) (v := ?_) rfl (by kernel_rfl) (by kernel_rfl) (by kernel_rfl) (fun _ _ _ h => h) (Or.inl ⟨by rfl, ?_⟩) (by assumption) ?_
      rotate_left
      ·intro w hSw; (try dsimp only at hSw); go_simp; (try with_reducible rfl)
      try simp only [Act.put, List.setIfInBounds_toArray, List.set_cons_zero, List.set_cons_succ]
      have k0d : Below w8.heap.size w8 w8.drew := Below.drew K0
      refine wpAnyH_ready (rs := [27]) (by kernel_rfl) (by simp) ?_
      refine AllReadyH.cons (o := { dst := some 107, op := Op.call { callee := Callee.value (Operand.func 39), args := #[Operand.tmp 106], argTypes := #[79] }, type := 3, pos := "law.go:136", after := #[{ on := 26, ground := Ground.data }, { on := 25, ground := Ground.chain }, { on := 25, ground := Ground.guard }], guard := some (25, false) }) rfl (fun KK hKK => ?_) AllReadyH.nil
      go_simp
      go_at_call 39
      with_reducible refine (LEN.out _ k0d).mono ?_
      rintro e w11 ⟨rfl, kn1⟩
      have k1 := KX.out _ _ k0d kn1
      clear kn1
      try dsimp only
      refine hKK.out _ _ (CF.out _ k1) (fun hHeld => ?_)
      clear hKK KK
      try simp only [Act.put, List.setIfInBounds_toArray, List.set_cons_zero, List.set_cons_succ]
      refine wpAnyH_take (i := 33) (oi := { dst := some 113, op := Op.binOp BinOp.neq 3 (Operand.tmp 107) (Operand.tmp 112) 3, type := 4, pos := "law.go:136", after := #[{ on := 27, ground := Ground.data }, { on := 32, ground := Ground.data }, { on := 25, ground := Ground.guard }], guard := some (25, false) }) (v := ?_) rfl (by kernel_rfl) (by kernel_rfl) (by kernel_rfl) (fun _ _ _ h => h) (Or.inl ⟨by rfl, ?_⟩) (by assumption) ?_
      rotate_left
      ·intro w hSw; (try dsimp only at hSw); go_simp; (try with_reducible rfl)
      try simp only [Act.put, List.setIfInBounds_toArray, List.set_cons_zero, List.set_cons_succ]
      refine wpAnyH_take (i := 34) (oi := { dst := some 114, op := Op.pick (Operand.tmp 105) (Operand.const (Value.bool true)) (Operand.tmp 113), type := 4, pos := "law.go:136", after := #[{ on := 25, ground := Ground.data }, { on := 33, ground := Ground.data }], guard := none }) (v := ?_) rfl (by kernel_rfl) (by kernel_rfl) (by kernel_rfl) (fun _ _ _ h => h) (Or.inl ⟨by rfl, ?_⟩) (by assumption) ?_
      rotate_left
      ·intro w hSw; (try dsimp only at hSw); go_simp; (try with_reducible rfl)
      try simp only [Act.put, List.setIfInBounds_toArray, List.set_cons_zero, List.set_cons_succ]
      refine wpAnyH_take (i := 35) (oi := { dst := some 115, op := Op.move (Operand.tmp 114), type := 4, pos := "law.go:136", after := #[{ on := 34, ground := Ground.data }, { on := 27, ground := Ground.chain }], guard := none }) (v := ?_) rfl (by kernel_rfl) (by kernel_rfl) (by kernel_rfl) (fun _ _ _ h => h) (Or.inl ⟨by rfl, ?_⟩) (by assumption) ?_
      rotate_left
      ·intro w hSw; (try dsimp only at hSw); go_simp; (try with_reducible rfl)
      try simp only [Act.put, List.setIfInBounds_toArray, List.set_cons_zero, List.set_cons_succ]
      refine wpAnyH_take (i := 36) (oi := { dst := some 116, op := Op.move (Operand.tmp 7), type := 79, pos := "law.go:136", after := #[{ on := 35, ground := Ground.guard }], guard := some (35, false) }) (v := ?_) rfl (by kernel_rfl) (by kernel_rfl) (by kernel_rfl) (fun _ _ _ h => h) (Or.inl ⟨by rfl, ?_⟩) (by assumption) ?_
      rotate_left
      ·intro w hSw; (try dsimp only at hSw); go_simp; (try with_reducible rfl)
      try simp only [Act.put, List.setIfInBounds_toArray, List.set_cons_zero, List.set_cons_succ]
      refine wpAnyH_take (i := 38) (oi := { dst := some 118, op := Op.move (Operand.tmp 9), type := 82, pos := "law.go:136", after := #[{ on := 35, ground := Ground.guard }], guard := some (35, false) }) (v := ?_) rfl (by kernel_rfl) (by kernel_rfl) (by kernel_rfl) (fun _ _ _ h => h) (Or.inl ⟨by rfl, ?_⟩) (by assumption) ?_
      rotate_left
      ·intro w hSw; (try dsimp only at hSw); go_simp; (try with_reducible rfl)
      try simp only [Act.put, List.setIfInBounds_toArray, List.set_cons_zero, List.set_cons_succ]
      refine wpAnyH_take (i := 39) (oi := { dst := some 119, op := Op.nilCheck (Operand.tmp 118), type := 0, pos := "law.go:136", after := #[{ on := 38, ground := Ground.data }, { on := 35, ground := Ground.guard }], guard := some (35, false) }) (v := ?_) rfl (by kernel_rfl) (by kernel_rfl) (by kernel_rfl) (fun _ _ _ h => h) (Or.inl ⟨by rfl, ?_⟩) (by assumption) ?_
      rotate_left
      ·intro w hSw; (try dsimp only at hSw); go_simp; (try with_reducible rfl)
      try simp only [Act.put, List.setIfInBounds_toArray, List.set_cons_zero, List.set_cons_succ]
      refine wpAnyH_take (i := 40) (oi := { dst := some 120, op := Op.fieldAddr 87 (Operand.tmp 119) 3, type := 0, pos := "law.go:136", after := #[{ on := 39, ground := Ground.data }, { on := 35, ground := Ground.guard }], guard := some (35, false) }) (v := ?_) rfl (by kernel_rfl) (by kernel_rfl) (by kernel_rfl) (fun _ _ _ h => h) (Or.inl ⟨by rfl, ?_⟩) (by assumption) ?_
      rotate_left
      ·intro w hSw; (try dsimp only at hSw); go_simp; (try with_reducible rfl)
      try simp only [Act.put, List.setIfInBounds_toArray, List.set_cons_zero, List.set_cons_succ]
      refine wpAnyH_take (i := 41) (oi := { dst := some 121, op := Op.fieldAddr 85 (Operand.tmp 120) 0, type := 0, pos := "law.go:136", after := #[{ on := 40, ground := Ground.data }, { on := 35, ground := Ground.guard }], guard := some (35, false) }) (v := ?_) rfl (by kernel_rfl) (by kernel_rfl) (by kernel_rfl) (fun _ _ _ h => h) (Or.inl ⟨by rfl, ?_⟩) (by assumption) ?_
      rotate_left
      ·intro w hSw; (try dsimp only at hSw); go_simp; (try with_reducible rfl)
      try simp only [Act.put, List.setIfInBounds_toArray, List.set_cons_zero, List.set_cons_succ]
      refine wpAnyH_take (i := 42) (oi := { dst := some 122, op := Op.load 26 (Operand.tmp 121), type := 26, pos := "law.go:136", after := #[{ on := 41, ground := Ground.data }, { on := 35, ground := Ground.guard }], guard := some (35, false) }) (v := ?_) rfl (by kernel_rfl) (by kernel_rfl) (by kernel_rfl) (fun _ _ _ h => h) (Or.inl ⟨by rfl, ?_⟩) (by assumption) ?_
      rotate_left
      ·intro w hSw; (try dsimp only at hSw); go_simp; (try with_reducible rfl)
      try simp only [Act.put, List.setIfInBounds_toArray, List.set_cons_zero, List.set_cons_succ]
      refine wpAnyH_take (i := 43) (oi := { dst := some 123, op := Op.call { callee := Callee.builtin Builtin.len, args := #[Operand.tmp 122], argTypes := #[26] }, type := 3, pos := "law.go:136", after := #[{ on := 42, ground := Ground.data }, { on := 35, ground := Ground.guard }], guard := some (35, false) }) (v := ?_) rfl (by kernel_rfl) (by kernel_rfl) (by kernel_rfl) (fun _ _ _ h => h) (Or.inl ⟨by rfl, ?_⟩) (by assumption) ?_
      rotate_left
      ·intro w hSw; (try dsimp only at hSw); go_simp; (try with_reducible rfl)
      try simp only [Act.put, List.setIfInBounds_toArray, List.set_cons_zero, List.set_cons_succ]
      refine wpAnyH_ready (rs := [37]) (by kernel_rfl) (by simp) ?_
      refine AllReadyH.cons (o := { dst := some 117, op := Op.call { callee := Callee.value (Operand.func 40), args := #[Operand.tmp 116], argTypes := #[79] }, type := 3, pos := "law.go:136", after := #[{ on := 36, ground := Ground.data }, { on := 35, ground := Ground.chain }, { on := 35, ground := Ground.guard }], guard := some (35, false) }) rfl (fun KK hKK => ?_) AllReadyH.nil
      go_simp
      go_at_call 40
      with_reducible refine (BIT.out _ k1).mono ?_
      rintro e w12 ⟨rfl, kn2⟩
      have k2 := KX.out _ _ k1 kn2
      clear kn2
      try dsimp only
      refine hKK.out _ _ (CF.out _ k2) (fun hHeld => ?_)
      clear hKK KK
      try simp only [Act.put, List.setIfInBounds_toArray, List.set_cons_zero, List.set_cons_succ]
      refine wpAnyH_take (i := 44) (oi := { dst := some 124, op := Op.binOp BinOp.neq 3 (Operand.tmp 117) (Operand.tmp 123) 3, type := 4, pos := "law.go:136", after := #[{ on := 37, ground := Ground.data }, { on := 43, ground := Ground.data }, { on := 35, ground := Ground.guard }], guard := some (35, false) }) (v := ?_) rfl (by kernel_rfl) (by kernel_rfl) (by kernel_rfl) (fun _ _ _ h => h) (Or.inl ⟨by rfl, ?_⟩) (by assumption) ?_
      rotate_left
      ·intro w hSw; (try dsimp only at hSw); go_simp; (try with_reducible rfl)
      try simp only [Act.put, List.setIfInBounds_toArray, List.set_cons_zero, List.set_cons_succ]
      refine wpAnyH_take (i := 45) (oi := { dst := some 125, op := Op.pick (Operand.tmp 115) (Operand.const (Value.bool true)) (Operand.tmp 124), type := 4, pos := "law.go:136", after := #[{ on := 35, ground := Ground.data }, { on := 44, ground := Ground.data }], guard := none }) (v := ?_) rfl (by kernel_rfl) (by kernel_rfl) (by kernel_rfl) (fun _ _ _ h => h) (Or.inl ⟨by rfl, ?_⟩) (by assumption) ?_
      rotate_left
      ·intro w hSw; (try dsimp only at hSw); go_simp; (try with_reducible rfl)
      try simp only [Act.put, List.setIfInBounds_toArray, List.set_cons_zero, List.set_cons_succ]
      refine wpAnyH_done (by kernel_rfl) ?_ _
      go_wp2_with fail
      go_meet
      case rel => exact ⟨rfl, k2⟩
    case rest =>
     obtain ⟨rfl, hk9⟩ := hcut
     have P9 := Lib.hid (P8b.out.next hk9)
     clear hk9 P8 P8b KS8 LEN BIT CF KX OB HNN K0 q5 q7
     go_wp2_with fail
     go_loopw [19] (fun v19 wl => ∃ (k : Nat) (kl' : List (Nat × Obj)), v19 = .int .i64 (k : Int) ∧ k ≤ m ∧ PQ w b T2 B2 D E2 qb T2 (B2.drop D) D E2 kb wb7 kl' wl ∧ SH sl m kl') (fun v19 _ => m - (intOf v19).toNat)
     case atStart => exact ⟨0, kl, rfl, Nat.zero_le _, P9.out, SH6.out⟩
     case round =>
      obtain ⟨k, kl', rfl, hkm, hPk, hSk⟩ := hrel
      by_cases hkl : k < m
      ·rcases hSk with h0 | ⟨gl, cur, rfl, rfl, hsz⟩
       ·omega
       ·have Pk := Lib.hid hPk
        have hrow := hPk.has (List.mem_cons_self ..)
        dsimp only at hrow
        obtain ⟨u, hu⟩ : ∃ u, cur[k]? = some u := ⟨cur[k]'(by omega), Array.getElem?_eq_getElem _⟩
        rename World => wl
        have ck : wl.cell? ⟨gl, k, none⟩ = some u := by rw [cell_of_row _ _ _ _ _ _ hrow]; exact hu
        have zk := frozen_of_row wl gl k _ _ hrow
        have PT := Lib.hid (hPk.turn (o' := .cells (cur.setIfInBounds k (.int .u32 3)) 77 (0, 0)) ((Keeps.refl wl (fun x => x = gl)).setCell (p := ⟨gl, k, none⟩) (.inl rfl) (.int .u32 3)) (heap_setCell_same wl gl k _ _ _ hrow) (fun p hp => by cases hp))
        clear hPk hrow hu
        go_wp2_with fail
        go_roundw
        case rel => exact ⟨k + 1, _, by go_num, by omega, PT.out, .inr ⟨gl, _, rfl, rfl, by rw [Array.size_setIfInBounds]; exact hsz⟩⟩
        case measure => simp [intOf]; try omega
      ·have hk2 : k = m := by omega
       subst hk2
       have Pk := Lib.hid (hPk.sub (K' := []) (fun p hp => by cases hp))
       have hbw := hPk.below
       clear hPk hSk
       have LI1 : Hid (∀ W, Below _ _ W → LI w b (i + 1) qb kb all W) := Lib.hid (fun W kW => ⟨T2, B2, D, E2, wb7, Pk.out.next kW, I2.out, HAL.out.1, by rw [HTK.out]; exact HAL.out.2⟩)
       obtain ⟨sx, D2, hDr, hDD, h82, hD2, hsx⟩ := drain_both Pk.out BL8.out.2 BL8.out.1 HAL.out.1
       rw [HTK.out, ← HAL.out.2] at hsx
       have DR := Lib.hid hDr
       have DD := Lib.hid hDD
       have HS2 := Lib.hid (And.intro h82 (And.intro hD2 hsx))
       clear hDr hDD h82 hD2 hsx
       go_upto_region 20 with fail
       go_cut [144] from 135 to 143 (fun v wc => ∃ bd : Bool, v = .bool bd ∧ wc = wr)
       case first =>
        by_cases hdn : i < dn
        ·obtain ⟨gd, od, bd, rfl, hgd, hcd2⟩ := HDR.out i hdn
         have cd := (hbw.cell hgd).trans hcd2
         clear DR DD LI1
         go_wp2_with fail
         go_meet
         case rel => exact ⟨bd, rfl, rfl⟩
        ·have i1 : decide ((i : Int) < (dn : Int)) = false := decide_eq_false (by omega)
         clear DR DD LI1
         go_wp2_with fail
         go_meet
         case rel => exact ⟨false, rfl, rfl⟩
       case rest =>
       obtain ⟨bd, rfl, rfl⟩ := hcut
       go_upto_if 144 with fail
       go_cut [10, 20, 21] from 145 to 160 (fun v10 _ _ wc => ∃ all2, v10 = .string all2 ∧ LI w b (i + 1) qb kb all2 wc)
       case first =>
        cases bd with
        | false =>
         go_wp2_with fail
         go_meet
         case rel => exact ⟨all, rfl, LI1.out _ (Below.refl _ _)⟩
        | true =>
         go_wp2_with fail
         with_reducible refine DR.out.mono ?_
         rintro e w10 ⟨rfl, wb10, h10⟩
         have DD10 := Lib.hid (DD.out wb10 w10 h10)
         clear h10 DR DD
         have hq0 : all.size + sx.size ≤ 134217728 := by
          have h := congrArg ByteArray.size HS2.out.2.2
          rw [ByteArray.size_append, txt_size, packN_length, List.length_take] at h
          have := BL8.out
          omega
         have g1 : ¬ (9223372036854775807 : Int) < (all.size : Int) + (sx.size : Int) := by omega
         have g3 : ¬ 9223372036854775807 < all.size + sx.size := by omega
         have g5 : ¬ (((all.size + sx.size : Nat) : Int) > IntKind.i64.max) := by
          have : IntKind.i64.max = 9223372036854775807 := by decide
          omega
         go_wp2_with fail
         with_reducible refine DD10.out.mono ?_
         rintro e w11 ⟨rfl, h11⟩
         have LI2 : Hid (LI w b (i + 1) qb kb (all ++ sx) w11) := Lib.hid ⟨T2, B2, D2, E2, wb10, h11, ⟨I2.out.t, I2.out.n, I2.out.e, I2.out.l, HS2.out.2.1⟩, HS2.out.1, HS2.out.2.2⟩
         clear h11 DD10
         go_wp2_with fail
         go_meet
         case rel => exact ⟨_, rfl, LI2.out⟩
       case rest =>
        obtain ⟨all2, rfl, T3, B3, D3, E3, wb3, hP3, hI3, hD83, hall3⟩ := hcut
        obtain ⟨ls3, hks3⟩ := hP3.ks
        have P3 := Lib.hid hP3
        have TX := Lib.hid hks3.text2
        have TL : Hid (B3.length ≤ 1073741824) := Lib.hid (by obtain ⟨-, e1, e2, e3, e4⟩ := hI3; omega)
        obtain ⟨tt, htt⟩ : ∃ z, txt (packN (B3.drop D3)) = z := ⟨_, rfl⟩
        obtain ⟨tx, htx⟩ : ∃ z, txt (packN B3) = z := ⟨_, rfl⟩
        have AT : all2 ++ tt = tx := by rw [hall3, ← htt, ← htx, txt_append, ← packN_append (D3 / 8) _ _ (by rw [List.length_take]; have := hI3.d; omega), List.take_append_drop]
        have hq0 : all2.size + tt.size ≤ 134217728 := by
         have h := congrArg ByteArray.size AT
         rw [ByteArray.size_append, ← htx, txt_size, packN_length] at h
         have := TL.out
         omega
        have g1 : ¬ (9223372036854775807 : Int) < (all2.size : Int) + (tt.size : Int) := by omega
        have g3 : ¬ 9223372036854775807 < all2.size + tt.size := by omega
        have g5 : ¬ (((all2.size + tt.size : Nat) : Int) > IntKind.i64.max) := by
         have : IntKind.i64.max = 9223372036854775807 := by decide
         omega
        rw [htt] at TX
        have I3 := Lib.hid (And.intro hI3 (And.intro hD83 hall3))
        have HTX := Lib.hid htx
        clear hP3 hI3 hD83 hall3 hks3 htt htx DR DD LI1 hbw
        go_wp2_with fail
        with_reducible refine TX.out.mono ?_
        rintro e w12 ⟨rfl, k12⟩
        have P12 := Lib.hid (P3.out.next k12)
        obtain ⟨aL3, dL3, aB3, dB3, -, q7, oB⟩ := P12.out.cells
        have TD := Lib.hid (Text_any w12 0 _ B3 TL.out oB)
        rw [HTX.out] at TD
        clear k12 TX P3 oB
        go_wp2_with fail
        with_reducible refine TD.out.mono ?_
        rintro e w13 ⟨rfl, k13⟩
        have P13 := Lib.hid (P12.out.next k13)
        clear k13 P12 TD q7
        go_wp2_with fail
        go_roundw
        case rel => exact ⟨i + 1, all2, rfl, by go_num, by omega, by omega, T3, B3, D3, E3, wb3, P13.out, I3.out.1, I3.out.2.1, I3.out.2.2⟩
        case measure => simp [intOf]; try omega
   ·have BW := Lib.hid hLI.below
    have AW2 := Lib.hid (AW.out _ BW.out)
    clear hLI
    --Z
    by_cases h1 : i < n
    ·have h2 : i = 100 := by omega
     subst h2
     go_wp2_with fail
     with_reducible refine AW2.out.mono ?_
     rintro e w9 ⟨rfl, k9⟩
     have KF := Lib.hid (BW.out.trans (k9.mono BW.out.size))
     clear k9
     go_wp2_with fail
     go_ret
     exact ⟨rfl, KF.out⟩
    ·go_wp2_with fail
     with_reducible refine AW2.out.mono ?_
     rintro e w9 ⟨rfl, k9⟩
     have KF := Lib.hid (BW.out.trans (k9.mono BW.out.size))
     clear k9
     go_wp2_with fail
     go_ret
     exact ⟨rfl, KF.out⟩
 ·have NN := Lib.hid (fun W => bnew_no pw pd pi pz pc hb W)
  rw [if_neg hb] at DC
  obtain ⟨n, hn⟩ : ∃ z, L.length = z := ⟨_, rfl⟩
  rw [hn]
  clear hG haw hL hls hD hb hn
  unfold bpV at OW NN DC ⊢
  go_enter Tryz.func6, Tryz.ntmps6
  go_wp2_with fail
  have f1 := F0.out.add #[.int .i64 pw, .int .i64 pd, .int .i64 pi, .int .i64 pz, .int .i64 pc] 56
  obtain ⟨pb, hpb⟩ : ∃ z, w.heap.size = z := ⟨_, rfl⟩
  rw [hpb] at f1 ⊢
  with_reducible refine (OW.out _).mono ?_
  rintro e w1 ⟨rfl, k1⟩
  have F1 := Lib.hid (f1.next k1)
  clear f1 k1
  go_wp2_with fail
  with_reducible refine (NN.out _).mono ?_
  rintro e w2 ⟨rfl, k2⟩
  have F2 := Lib.hid (F1.out.next k2)
  obtain ⟨p0, p1, p2, p3, p4⟩ := PC.out w2 pb (F2.out.row (List.mem_cons_self ..))
  clear k2 F1
  go_wp2_with fail
  with_reducible refine (DC.out _).mono ?_
  rintro e w3 ⟨rfl, k3⟩
  have F3 := Lib.hid (F2.out.next k3)
  clear k3 F2 p0 p1 p2 p3 p4
  go_wp2_with fail
  with_reducible refine (AW.out _ F3.out.below).mono ?_
  rintro e w4 ⟨rfl, k4⟩
  have F4 := Lib.hid (F3.out.next k4)
  clear k4
  go_wp2_with fail
  go_ret
  exact ⟨rfl, F4.out.below⟩
end Go.Proofs.YtflnpcgnenhogaaGreatDoor.ls
