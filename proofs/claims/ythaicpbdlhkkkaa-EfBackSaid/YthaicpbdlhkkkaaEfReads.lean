/- EfReads: the walk of the law. -/
import Derived.BigQuiet
import Derived.Test.YthaicpbdlhkkkaaEfV
namespace Go.Proofs.Ythaicpbdlhkkkaa.ef
open Go.RowKit Go.Proofs.Ythaicpbdlhkkkaa.own Go.Proofs.Ythaicpbdlhkkkaa.bit

theorem len_same (s : ByteArray) (xb : Nat) (w : World) (h : LsC w xb s) :
    Calls Try.prog 29 #[.pointer (some ⟨xb, 0, none⟩)] w fun e w' => e = .returned (.int .i64 ((nS (nats s) : Nat) : Int)) ∧ w' = w := by
  have hc : w.cell? ⟨xb, 0, none⟩ = some (.int .i64 ((nS (nats s) : Nat) : Int)) := by rw [cell_of_row _ _ _ _ _ _ h]; rfl
  clear h
  go_enter Try.func29, Try.ntmps29
  go_wp2_with fail
  go_ret
  exact ⟨rfl, rfl⟩
theorem len_none (w : World) :
    Calls Try.prog 29 #[.pointer none] w fun e w' => e = .returned (.int .i64 0) ∧ w' = w := by
  go_enter Try.func29, Try.ntmps29
  go_wp2_with fail
  go_ret
  exact ⟨rfl, rfl⟩

theorem RU.nil (w : World) : RU w (.slice none 0 0) [] := ⟨none, 0, rfl, Nat.le_refl _, fun _ hk => absurd hk (Nat.not_lt_zero _)⟩

set_option maxRecDepth 100000 in
set_option maxHeartbeats 1600000 in
theorem same_any (w : World) (v1 v2 : Value) (L : List Nat) (hl : L.length ≤ 16777216) (h1 : RU w v1 L) (h2 : RU w v2 L) :
    Calls Try.prog 35 #[v1, v2] w fun e w' => e = .returned (.bool true) ∧ Below w.heap.size w w' := by
  obtain ⟨a1, c1, rfl, hc1, -⟩ := id h1
  obtain ⟨a2, c2, rfl, hc2, -⟩ := id h2
  obtain ⟨n, hn⟩ : ∃ n, L.length = n := ⟨_, rfl⟩
  have HN := Lib.hid hn
  rw [hn] at hc1 hc2 hl h1 h2 ⊢
  have H1 := Lib.hid h1
  have H2 := Lib.hid h2
  clear hn h1 h2
  go_enter Try.func35, Try.ntmps35
  go_wp2_with fail
  go_loopw [5] (fun iv wr => ∃ k : Nat, k ≤ n ∧ iv = .int .i64 (k : Int) ∧ Below w.heap.size w wr) (fun iv _ => n - (intOf iv).toNat)
  case atStart => exact ⟨0, Nat.zero_le _, rfl, Below.refl _ _⟩
  case round =>
    obtain ⟨k, hk, rfl, hb⟩ := hrel
    by_cases hlt : k < n
    · obtain ⟨g1, rfl, k1⟩ := H1.out.cell k (by rw [HN.out]; exact hlt)
      obtain ⟨g2, rfl, k2⟩ := H2.out.cell k (by rw [HN.out]; exact hlt)
      have k1 := cell_keep hb k1
      have k2 := cell_keep hb k2
      generalize L.getD k 0 = x at k1 k2
      have hb1 : Below w.heap.size w wr.drew := hb.drew
      go_upto_region 6 with fail
      go_quiet (fail)
      go_wp2_with fail
      go_roundw
      case rel => exact ⟨k + 1, by omega, by go_num, below_next hb ⟨rfl, rfl, rfl, Nat.le_refl _, fun _ _ => rfl⟩⟩
      case measure => simp [intOf]; try omega
    · obtain rfl : k = n := by omega
      go_wp2_with fail
      go_ret
      exact ⟨rfl, hb⟩

theorem getV_shape {s : List Nat} (ho : opens s) (i : Int) : ∃ v e : Nat, getV s i = .tuple #[.int .u64 (v : Int), .int .i64 (e : Int)] ∧ v < 18446744073709551616 := by
  unfold getV
  split
  · cases h : getS s i.toNat with
    | none => exact ⟨0, 4, rfl, by omega⟩
    | some v =>
      have h1 := getS_lt h
      have h2 := ho.2.2.1
      exact ⟨v, 0, rfl, by omega⟩
  · exact ⟨0, 1, rfl, by omega⟩

set_option maxRecDepth 100000 in
set_option maxHeartbeats 6400000 in
theorem efReads_walk (s : ByteArray) (a : Option Addr) (len cap : Nat) (zs : List Int) (W : World) (hs : s.size ≤ maxLen)
    (hr : (a = none ∧ len = 0 ∧ cap = 0 ∧ zs = []) ∨ ∃ x, a = some x ∧ len ≤ cap ∧ cap ≤ maxLen ∧ zs.length = cap ∧ (∀ i, i < zs.length → W.cell? (x.add i) = some (.int .i64 (zs.getD i 0))) ∧ ∀ n ∈ zs, (Lit.int .i64 n).wf = true) :
    Calls Try.prog 8 #[.string s, .slice a len cap] W fun e W' => e = .returned (.bool true) ∧ Below W.heap.size W W' := by
  have OP := Lib.hid (open_any s W hs)
  unfold OpenPost at OP
  have DOP := Lib.hid (fun w => dopen_any s w hs)
  unfold DOpenPost formV zeroForm at DOP
  go_enter Try.func8, Try.ntmps8
  by_cases ho : opens (nats s)
  · have HOP := Lib.hid ho
    have hn := ho.2.1
    have GT := Lib.hid (fun i xb w h => get_any s hs ho i xb w h)
    have DGT := Lib.hid (fun i w => dget_any s hs ho i w)
    have NX := Lib.hid (fun xb v w h => next_any s hs ho xb v w h)
    have AL := Lib.hid (fun xb w h => all_any s hs ho xb w h)
    have DAL := Lib.hid (fun w => dall_any s hs ho w)
    have LE := Lib.hid (fun xb w h => len_same s xb w h)
    have ZL := Lib.hid (allL_length (nats s))
    have GS := Lib.hid (fun i => getV_shape ho i)
    unfold NextPost SearchPost at NX
    unfold AllPost at AL DAL
    clear ho
    go_wp2_with fail
    refine OP.out.mono ?_
    rintro e w1 ⟨k1, ⟨-, xb, rfl, hls, -⟩ | ⟨hno, -⟩⟩
    rotate_left
    · exact absurd HOP.out hno
    go_wp2_with fail
    refine (DOP.out _).mono ?_
    rintro e w2 ⟨k2, ⟨-, rfl⟩ | ⟨hno, -⟩⟩
    rotate_left
    · exact absurd HOP.out hno
    have K2 := below_next k1 k2
    have L2 := hls.below k2
    clear k1 k2 hls OP DOP
    go_upto_region 3 with fail
    have F0 := DS.start w2 (nS (nats s)) (uS (nats s)) (wid (nS (nats s)) (uS (nats s))) (hib (nS (nats s)) (uS (nats s)))
    have K3 : Below W.heap.size W (w2.alloc (.cells #[.int .i64 ((nS (nats s) : Nat) : Int), .int .u64 ((uS (nats s) : Nat) : Int), .int .i64 ((wid (nS (nats s)) (uS (nats s)) : Nat) : Int), .int .i64 ((hib (nS (nats s)) (uS (nats s)) : Nat) : Int)] 64)) := K2.alloc K2.size _
    have L3 := L2.below F0.1
    generalize w2.alloc _ = w3 at F0 K3 L3 ⊢
    obtain ⟨c0, -, -, -, -⟩ := F0.mk
    generalize hib (nS (nats s)) (uS (nats s)) = hbb at *
    generalize wid (nS (nats s)) (uS (nats s)) = wd at *
    generalize nS (nats s) = n at *
    generalize uS (nats s) = u at *
    clear F0 L2 K2
    go_quiet (first | (go_at_call 29; refine Calls.quiet_of_same (LE.out xb _ (LsC.below L3 ⟨rfl, rfl, rfl, Nat.le_refl _, fun _ _ => rfl⟩))))
    have K4 : Below W.heap.size W (w3.drewN nq) := below_next K3 ⟨rfl, rfl, rfl, Nat.le_refl _, fun _ _ => rfl⟩
    have L4 : LsC (w3.drewN nq) xb s := L3.below ⟨rfl, rfl, rfl, Nat.le_refl _, fun _ _ => rfl⟩
    generalize w3.drewN nq = w4 at K4 L4 ⊢
    clear K3 L3 c0
    have HR : Hid (∀ k, k < len → ∃ x, a = some x ∧ W.cell? (x.add k) = some (.int .i64 (zs.getD k 0))) := Lib.hid (fun k hk => by
      rcases hr with ⟨_, h0, _⟩ | ⟨x, h1, h2, _, h4, h5, _⟩
      · omega
      · exact ⟨x, h1, h5 k (by omega)⟩)
    clear hr
    go_wp2_with fail
    go_loopw [9] (fun iv wr => ∃ k : Nat, k ≤ 40 ∧ iv = .int .i64 (k : Int) ∧ Below W.heap.size W wr ∧ LsC wr xb s)
      (fun iv _ => 40 - (intOf iv).toNat)
    case atStart => exact ⟨0, Nat.zero_le _, rfl, K4, L4⟩
    case round =>
      obtain ⟨k, hk, rfl, hb, hls⟩ := hrel
      by_cases hlt : k < len ∧ k < 40
      · obtain ⟨hl1, hl2⟩ := hlt
        obtain ⟨x, rfl, hcell⟩ := HR.out k hl1
        have CC := Lib.hid hcell
        have hcell := cell_keep hb hcell
        obtain ⟨z, hz⟩ : ∃ z, zs.getD k 0 = z := ⟨_, rfl⟩
        rw [hz] at hcell CC
        clear hz
        obtain ⟨v, eb, hgv, hv⟩ := GS.out z
        have G1 := GT.out z xb wr hls
        have G2 := Lib.hid (fun w => DGT.out z w)
        rw [hgv] at G1 G2
        have G1 := Lib.hid G1
        have hl1i : (k : Int) < (len : Int) := by omega
        have hl2i : (k : Int) < 40 := by omega
        have hgvH := Lib.hid hgv
        clear hgv
        go_wp2_with fail
        refine G1.out.mono ?_
        rintro e w5 ⟨rfl, k5⟩
        have hb5 := below_next hb k5
        have hls5 := hls.below k5
        have hcell5 := cell_keep hb5 CC.out
        clear hcell hb hls k5
        go_wp2_with fail
        refine (G2.out _).mono ?_
        rintro e w6 ⟨rfl, k6⟩
        have hb6 := below_next hb5 k6
        have hls6 := hls5.below k6
        clear hcell5 hb5 hls5 k6
        go_wp2_with fail
        refine (NX.out xb v _ hls6).mono ?_
        rintro e w7 ⟨k7, hcase⟩
        have hb7 := below_next hb6 k7
        have hls7 := hls6.below k7
        clear hb6 hls6 k7
        have LN7 := Lib.hid (LE.out xb _ hls7)
        rcases hcase with ⟨m, rfl, hm, -⟩ | ⟨rfl, -⟩
        · have hmi : (m : Int) ≤ (n : Int) := by omega
          go_wp2_with fail
          refine LN7.out.mono ?_
          rintro e w8 ⟨rfl, rfl⟩
          go_wp2_with fail
          go_roundw
          case rel => exact ⟨k + 1, by omega, by go_num, hb7, hls7⟩
          case measure => simp [intOf]; try omega
        · go_wp2_with fail
          refine LN7.out.mono ?_
          rintro e w8 ⟨rfl, rfl⟩
          go_wp2_with fail
          go_roundw
          case rel => exact ⟨k + 1, by omega, by go_num, hb7, hls7⟩
          case measure => simp [intOf]; try omega
      · have hno : (¬ k < len ∧ ¬ (k : Int) < (len : Int)) ∨ ((k < len ∧ (k : Int) < (len : Int)) ∧ ¬ k < 40 ∧ ¬ (k : Int) < 40) := by omega
        have A1 := Lib.hid (AL.out xb wr hls)
        clear hlt HR
        rcases hno with ⟨h1, h1i⟩ | ⟨⟨h1, h1i⟩, h2, h2i⟩
        all_goals
          go_wp2_with fail
          refine A1.out.mono ?_
          rintro e w5 ⟨k5, hc5⟩
          have hb5 := below_next hb k5
          rcases hc5 with ⟨hok, v5, rfl, ho5⟩ | ⟨hno, rfl⟩
          · have HOK := Lib.hid hok
            have R5 : RU w5 v5 (allL (nats s)) := RU.of ho5
            clear ho5 k5 hok
            go_wp2_with fail
            refine (DAL.out _).mono ?_
            rintro e w6 ⟨k6, hc6⟩
            have hb6 := below_next hb5 k6
            rcases hc6 with ⟨-, v6, rfl, ho6⟩ | ⟨hno, -⟩
            · have R6 : RU w6 v6 (allL (nats s)) := RU.of ho6
              have R5' := R5.below k6
              have SA := Lib.hid (same_any w6 v5 v6 _ (by rw [ZL.out]; exact hn) R5' R6)
              clear R5 R6 R5' ho6 k6 hb5
              go_wp2_with fail
              refine SA.out.mono ?_
              rintro e w7 ⟨rfl, k7⟩
              have hb7 := below_next hb6 k7
              clear k7 hb6
              go_wp2_with fail
              refine (efT.awake_any _).mono ?_
              rintro e w8 ⟨rfl, k8⟩
              have hb8 := below_next hb7 k8
              go_wp2_with fail
              go_ret
              exact ⟨rfl, hb8⟩
            · exact absurd HOK.out hno
          · have HNO := Lib.hid hno
            clear k5 hno
            go_wp2_with fail
            refine (DAL.out _).mono ?_
            rintro e w6 ⟨k6, hc6⟩
            have hb6 := below_next hb5 k6
            rcases hc6 with ⟨hok, -⟩ | ⟨-, rfl⟩
            · exact absurd hok HNO.out
            · have SA := Lib.hid (same_any w6 _ _ [] (by simp) (RU.nil w6) (RU.nil w6))
              clear k6 hb5
              go_wp2_with fail
              refine SA.out.mono ?_
              rintro e w7 ⟨rfl, k7⟩
              have hb7 := below_next hb6 k7
              clear k7 hb6
              go_wp2_with fail
              refine (efT.awake_any _).mono ?_
              rintro e w8 ⟨rfl, k8⟩
              have hb8 := below_next hb7 k8
              go_wp2_with fail
              go_ret
              exact ⟨rfl, hb8⟩
  · have NO := Lib.hid ho
    clear ho hr
    go_wp2_with fail
    refine OP.out.mono ?_
    rintro e w1 ⟨k1, ⟨hyes, -⟩ | ⟨-, rfl⟩⟩
    · exact absurd hyes NO.out
    go_wp2_with fail
    refine (DOP.out _).mono ?_
    rintro e w2 ⟨k2, ⟨hyes, -⟩ | ⟨-, rfl⟩⟩
    · exact absurd hyes NO.out
    have K2 := below_next k1 k2
    clear k1 k2
    go_upto_region 3 with fail
    have r3 := heap_alloc_new w2 (.cells #[.int .i64 0, .int .u64 0, .int .i64 0, .int .i64 0] 64)
    have K3 : Below W.heap.size W (w2.alloc (.cells #[.int .i64 0, .int .u64 0, .int .i64 0, .int .i64 0] 64)) := K2.alloc K2.size _
    generalize w2.alloc _ = w3 at r3 K3 ⊢
    have c0 : w3.cell? ⟨w2.heap.size, 0, none⟩ = some (.int .i64 0) := by rw [cell_of_row _ _ _ _ _ _ r3]; rfl
    clear r3 K2
    go_quiet (first | (go_at_call 29; refine Calls.quiet_of_same (len_none _)))
    go_wp2_with fail
    refine (efT.awake_any _).mono ?_
    rintro e w4 ⟨rfl, k4⟩
    have K4 := below_next K3 (below_next (show Below w3.heap.size w3 (w3.drewN nq) from ⟨rfl, rfl, rfl, Nat.le_refl _, fun _ _ => rfl⟩) k4)
    go_wp2_with fail
    go_ret
    exact ⟨rfl, K4⟩
end Go.Proofs.Ythaicpbdlhkkkaa.ef
