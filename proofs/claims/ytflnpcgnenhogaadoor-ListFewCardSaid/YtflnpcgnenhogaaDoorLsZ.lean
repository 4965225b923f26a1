/- list: the law of few, walked. -/
import Derived.Test.YtflnpcgnenhogaaDoorLsY
namespace Go.Proofs.YtflnpcgnenhogaaDoor.ls
open Go.RowKit Go.Proofs.YtflnpcgnenhogaaDoor.own Go.Proofs.YtflnpcgnenhogaaDoor.bit

theorem tmod16 (r : Int) : ∃ m : Int, Int.tmod r 16 = m ∧ -15 ≤ m ∧ m ≤ 15 := by
  refine ⟨_, rfl, ?_, ?_⟩ <;> · have := Int.tmod_lt_of_pos r (show (0 : Int) < 16 by decide); have := Int.lt_tmod_of_pos r (show (0 : Int) < 16 by decide); omega
set_option maxRecDepth 100000 in
set_option maxHeartbeats 6400000 in
theorem few_any (w : World) (hG : GL w) (haw : ∀ W, Below w.heap.size w W → Calls Tryd.prog 18 #[] W fun e w' => e = .returned (.bool true) ∧ Below W.heap.size W w')
    (a : Option Addr) (succ : List Nat) (cap : Nat) (x r : Int) (hA : LV w a succ) (hc : succ.length ≤ cap) :
    Calls Tryd.prog 5 #[.slice a succ.length cap, .int .i64 x, .int .i64 r] w fun e w' => e = .returned (.bool true) ∧ Below w.heap.size w w' := by
  obtain ⟨i0, hi, hz0, hz1, hz2⟩ := info_parts Tryd.infoU32
  have G := Lib.hid hG
  have AW := Lib.hid haw
  have A := Lib.hid hA
  have hlen := hA.1
  obtain ⟨m, hm, hm1, hm2⟩ := tmod16 r
  clear hG haw hA
  go_enter Tryd.func5, Tryd.ntmps5
  go_upto_region 3 with fail
  obtain ⟨rn, hrn⟩ : ∃ rn : Nat, 1 + m % 16 = (rn : Int) := ⟨(1 + m % 16).toNat, by omega⟩
  have hr1 : 1 ≤ rn := by omega
  have hr2 : rn ≤ 16 := by omega
  rw [hrn]
  obtain ⟨sz, hsz⟩ : ∃ z, w.heap.size = z := ⟨_, rfl⟩
  have f1 := (FS.start w).add #[.int .i64 16, .int .i64 2, .int .i64 3] 38
  rw [hsz] at f1 ⊢
  obtain ⟨ks, hks⟩ : ∃ ks : List (Nat × Obj), [(sz, Obj.cells #[.int .i64 16, .int .i64 2, .int .i64 3] 38 (0, 0))] = ks := ⟨_, rfl⟩
  have M : Hid ((sz, Obj.cells #[.int .i64 16, .int .i64 2, .int .i64 3] 38 (0, 0)) ∈ ks) := Lib.hid (by rw [← hks]; simp)
  rw [hks] at f1
  generalize World.alloc w _ = W1 at f1 ⊢
  have F1 := Lib.hid f1
  clear hks f1
  have rr := F1.out.row M.out
  have c0 : W1.cell? ⟨sz, 0, none⟩ = some (.int .i64 16) := by rw [cell_of_row _ _ _ _ _ _ rr]; rfl
  have c1 : W1.cell? ⟨sz, 1, none⟩ = some (.int .i64 2) := by rw [cell_of_row _ _ _ _ _ _ rr]; rfl
  have c2 : W1.cell? ⟨sz, 2, none⟩ = some (.int .i64 3) := by rw [cell_of_row _ _ _ _ _ _ rr]; rfl
  clear rr
  by_cases hmay : MayI 16 2 3 x succ succ (rn : Int)
  case neg =>
    have BI : Hid (∀ W, Below w.heap.size w W → Calls Tryd.prog 9 #[.int .i64 x, .slice a succ.length cap, .slice a succ.length cap, .int .i64 (rn : Int), .agg #[.int .i64 16, .int .i64 2, .int .i64 3]] W fun e w' => e = .returned (.tuple #[.int .i64 0, .int .i64 1]) ∧ Below W.heap.size W w') := Lib.hid (fun W k => lbits_no 16 2 3 x W a succ cap a succ cap (rn : Int) hmay (A.out.below k) (A.out.below k))
    have EN : Hid (∀ (wb : Nat) W, Below w.heap.size w W → Calls Tryd.prog 11 #[.pointer (some ⟨wb, 0, none⟩), .int .i64 x, .slice a succ.length cap, .slice a succ.length cap, .int .i64 (rn : Int), .agg #[.int .i64 16, .int .i64 2, .int .i64 3]] W fun e w' => e = .returned (.int .i64 1) ∧ Below W.heap.size W w') := Lib.hid (fun wb W k => lenc_no wb 16 2 3 x W a succ cap a succ cap (rn : Int) hmay (A.out.below k) (A.out.below k))
    clear hmay hm hrn hsz hm1 hm2
    go_wp2_with fail
    with_reducible refine (BI.out _ F1.out.below).mono ?_
    rintro e w2 ⟨rfl, k2⟩
    have F2 := Lib.hid (F1.out.next k2)
    clear c0 c1 c2 k2
    go_wp2_with fail
    with_reducible refine F2.out.new.mono ?_
    rintro e w3 ⟨wb, rfl, h3⟩
    have F3 := Lib.hid h3
    clear h3
    have rr := F3.out.row M.out
    have c0 : w3.cell? ⟨sz, 0, none⟩ = some (.int .i64 16) := by rw [cell_of_row _ _ _ _ _ _ rr]; rfl
    have c1 : w3.cell? ⟨sz, 1, none⟩ = some (.int .i64 2) := by rw [cell_of_row _ _ _ _ _ _ rr]; rfl
    have c2 : w3.cell? ⟨sz, 2, none⟩ = some (.int .i64 3) := by rw [cell_of_row _ _ _ _ _ _ rr]; rfl
    clear rr
    go_wp2_with fail
    with_reducible refine (EN.out _ _ F3.out.below).mono ?_
    rintro e w4 ⟨rfl, k4⟩
    have F4 := Lib.hid (F3.out.next k4)
    clear c0 c1 c2 k4
    go_wp2_with fail
    with_reducible refine (AW.out _ F4.out.below).mono ?_
    rintro e w5 ⟨rfl, k5⟩
    have K := Lib.hid (F4.out.next k5).below
    clear k5
    go_wp2_with fail
    go_ret
    exact ⟨rfl, K.out⟩
  case pos =>
    obtain ⟨X, rfl⟩ : ∃ X : Nat, x = (X : Int) := ⟨x.toNat, by obtain ⟨_, ⟨h, _⟩, _⟩ := hmay; omega⟩
    have hN : MayN X succ succ rn ⟨16, 2, 3⟩ := mayN_mayI.1 hmay
    have hX : X < 65536 := hN.2.1
    have hl6 : succ.length ≤ 65536 := hN.2.2.1.len
    have LL := lay_len hN
    obtain ⟨LB, hLB⟩ : ∃ L, lay X succ succ rn ⟨16, 2, 3⟩ = L := ⟨_, rfl⟩
    rw [hLB] at LL
    have BI : Hid (∀ W, Below w.heap.size w W → Calls Tryd.prog 9 #[.int .i64 (X : Int), .slice a succ.length cap, .slice a succ.length cap, .int .i64 (rn : Int), .agg #[.int .i64 16, .int .i64 2, .int .i64 3]] W fun e w' => e = .returned (.tuple #[.int .i64 (LB.length : Int), .int .i64 0]) ∧ Below W.heap.size W w') := Lib.hid (fun W k => hLB ▸ lbits_yes ⟨16, 2, 3⟩ X W (G.out.below k) a succ cap a succ cap rn hc hc hN (A.out.below k) (A.out.below k))
    have EN : Hid (∀ (wb : Nat) W, FS w (some (wb, [])) none ks W → Calls Tryd.prog 11 #[.pointer (some ⟨wb, 0, none⟩), .int .i64 (X : Int), .slice a succ.length cap, .slice a succ.length cap, .int .i64 (rn : Int), .agg #[.int .i64 16, .int .i64 2, .int .i64 3]] W fun e w' => e = .returned (.int .i64 0) ∧ FS w (some (wb, LB)) none ks w') := Lib.hid (fun wb W h => hLB ▸ h.enc G.out ⟨16, 2, 3⟩ X a succ cap a succ cap rn hc hc hN A.out A.out)
    obtain ⟨R, hR⟩ := text_back LB
    obtain ⟨r', a', hH, hA'⟩ := few_head X rn succ hl6 ⟨hr1, hr2⟩ R
    rw [hLB, ← hR] at hH
    rw [hLB] at hA'
    have HD : Hid (∀ (rb wb : Nat) W, FS w (some (wb, LB)) (some (rb, txt (packN LB), 0)) ks W → Calls Tryd.prog 21 #[.pointer (some ⟨rb, 0, none⟩), .agg #[.int .i64 16, .int .i64 2, .int .i64 3]] W fun e w' => e = .returned (.tuple #[.agg #[.int .i64 (succ.length : Int), .int .i64 (r' : Int)], .int .i64 0]) ∧ FS w (some (wb, LB)) (some (rb, txt (packN LB), a')) ks w') := Lib.hid (fun rb wb W h => by
      have h2 := h.head G.out ⟨16, 2, 3⟩ hN.1
      rw [show hread (⟨16, 2, 3⟩ : Pr).win (unpack (nats (txt (packN LB)))) 0 = _ from hH] at h2
      exact h2)
    have TS : Hid ((txt (packN LB)).size ≤ 1152921504606846975) := Lib.hid (by rw [txt_size, packN_length]; omega)
    obtain ⟨lb, hlb⟩ : ∃ k, LB.length = k := ⟨_, rfl⟩
    rw [hlb] at BI LL hA'
    have HLB := Lib.hid hlb
    obtain ⟨n, hn⟩ : ∃ n, succ.length = n := ⟨_, rfl⟩
    rw [hn] at BI EN HD hl6 hA' hc hlen ⊢
    clear hmay hm hrn hsz hm1 hm2 hN hLB hR hH hlb hn
    go_wp2_with fail
    with_reducible refine (BI.out _ F1.out.below).mono ?_
    rintro e w2 ⟨rfl, k2⟩
    have F2 := Lib.hid (F1.out.next k2)
    clear c0 c1 c2 k2 BI
    go_wp2_with fail
    with_reducible refine F2.out.new.mono ?_
    rintro e w3 ⟨wb, rfl, h3⟩
    have F3 := Lib.hid h3
    clear h3
    have rr := F3.out.row M.out
    have c0 : w3.cell? ⟨sz, 0, none⟩ = some (.int .i64 16) := by rw [cell_of_row _ _ _ _ _ _ rr]; rfl
    have c1 : w3.cell? ⟨sz, 1, none⟩ = some (.int .i64 2) := by rw [cell_of_row _ _ _ _ _ _ rr]; rfl
    have c2 : w3.cell? ⟨sz, 2, none⟩ = some (.int .i64 3) := by rw [cell_of_row _ _ _ _ _ _ rr]; rfl
    clear rr
    go_wp2_with fail
    with_reducible refine (EN.out _ _ F3.out).mono ?_
    rintro e w4 ⟨rfl, h4⟩
    have F4 := Lib.hid h4
    clear c0 c1 c2 h4 EN F3 F2 F1
    go_wp2_with fail
    with_reducible refine F4.out.text.mono ?_
    rintro e w5 ⟨rfl, rfl⟩
    have OP := Lib.hid (F4.out.open _ TS.out)
    go_wp2_with fail
    with_reducible refine OP.out.mono ?_
    rintro e w6 ⟨rb, rfl, h6⟩
    have F6 := Lib.hid h6
    clear h6 OP
    have rr := F6.out.row M.out
    have c0 : w6.cell? ⟨sz, 0, none⟩ = some (.int .i64 16) := by rw [cell_of_row _ _ _ _ _ _ rr]; rfl
    have c1 : w6.cell? ⟨sz, 1, none⟩ = some (.int .i64 2) := by rw [cell_of_row _ _ _ _ _ _ rr]; rfl
    have c2 : w6.cell? ⟨sz, 2, none⟩ = some (.int .i64 3) := by rw [cell_of_row _ _ _ _ _ _ rr]; rfl
    clear rr
    go_wp2_with fail
    with_reducible refine (HD.out _ _ _ F6.out).mono ?_
    rintro e w7 ⟨rfl, h7⟩
    have F7 := Lib.hid h7
    clear c0 c1 c2 h7 HD F6 F4
    have f8 := F7.out.add #[.int .i64 (n : Int), .int .i64 (r' : Int)] 55
    obtain ⟨hb, hhb⟩ : ∃ z, w7.heap.size = z := ⟨_, rfl⟩
    go_upto_region 13 with fail
    rw [hhb] at f8
    generalize World.alloc w7 _ = W8 at f8 ⊢
    have rh := f8.row (List.mem_cons_self ..)
    have h0 : W8.cell? ⟨hb, 0, none⟩ = some (.int .i64 (n : Int)) := by rw [cell_of_row _ _ _ _ _ _ rh]; rfl
    have RS := Lib.hid (f8.row (List.mem_cons_of_mem _ M.out))
    have LEN := Lib.hid (HLB.out ▸ f8.len)
    have AT := Lib.hid f8.at_
    have KB := Lib.hid f8.below
    clear f8 rh hhb F7
    obtain ⟨x0, hx0⟩ : ∃ x0 : Nat, (X : Int) % 60000 = (x0 : Int) := ⟨X % 60000, by omega⟩
    have hx1 : x0 < 60000 := by omega
    obtain ⟨N, hN⟩ : ∃ N : Nat, (n : Int) % 50 + 2 = (N : Int) := ⟨n % 50 + 2, by omega⟩
    have hN1 : 2 ≤ N := by omega
    have hN2 : N ≤ 51 := by omega
    by_cases hn0 : 0 < n
    · have e9 : (a' : Int) + 1 = (lb : Int) := by have := hA' hn0; omega
      have j1 : decide ((0 : Int) < (n : Int)) = true := decide_eq_true (by omega)
      have j1n : decide (0 < n) = true := decide_eq_true hn0
      clear hA'
      go_wp2_with fail
      with_reducible refine LEN.out.mono ?_
      rintro e w9 ⟨rfl, rfl⟩
      go_wp2_with fail
      with_reducible refine LEN.out.mono ?_
      rintro e w9 ⟨rfl, rfl⟩
      go_wp2_with fail
      with_reducible refine AT.out.mono ?_
      rintro e w9 ⟨rfl, rfl⟩
      clear h0 LEN AT
      go_wp2_with fail
      rw [hx0]
      go_loopw [18, 19] (fun vs vi wr => ∃ i : Nat, vi = .int .i64 (i : Int) ∧ i ≤ N ∧ wr.ownsRow W8.heap.size 60 1 vs i (u32V (List.range' x0 i)) ∧ Below W8.heap.size W8 wr) (fun _ vi _ => N - (intOf vi).toNat)
      case atStart => exact ⟨0, rfl, Nat.zero_le _, World.ownsRow_nil _ _ _ _, Below.refl _ _⟩
      case round =>
        obtain ⟨i, rfl, hi9, own, hk⟩ := hrel
        have HO := Lib.hid own
        have HK := Lib.hid hk
        obtain ⟨sv, sc, rfl⟩ := own_shape own
        clear own hk
        by_cases hlt : i < N
        · have i1 : decide ((i : Int) < (N : Int)) = true := decide_eq_true (by omega)
          have i2 : (i : Int) < (N : Int) := by omega
          obtain ⟨vv, hvv⟩ : ∃ v, x0 + i = v := ⟨_, rfl⟩
          have HV := Lib.hid hvv
          have OWN1 := Lib.hid (HO.out.alloc (.cells #[.int .u32 (vv : Int)] 60))
          have C1 : Hid (∀ j u, ([Value.int .u32 (vv : Int)] : List Value)[j]? = some u → (wr.alloc (.cells #[.int .u32 (vv : Int)] 60)).cell? ((⟨wr.heap.size, 0, none⟩ : Addr).add j) = some u) := Lib.hid (fun j u hu => by
            rw [Addr.add_lit, cell_of_row _ _ _ _ _ _ (heap_alloc_new _ _), Nat.zero_add]; simpa using hu)
          have C3 : Hid (i + 1 ≤ maxLen) := Lib.hid (by simp only [maxLen]; omega)
          have C4 : Hid ((i + 1) * 4 ≤ 140737488355328) := Lib.hid (by omega)
          have C5 : Hid (W8.heap.size ≤ (wr.alloc (.cells #[.int .u32 (vv : Int)] 60)).heap.size) := Lib.hid (by have := HK.out.size; simp; omega)
          have i3 : (x0 : Int) + (i : Int) = (vv : Int) := by omega
          have i4 : vv < 65536 := by omega
          clear hvv
          go_wp2_with (at_builtin; refine wpList_append_at _ rfl _ _ 29 rfl W8.heap.size 60 i0 _ 1 4 Tryd.underlying29 hi hz0 hz1 hz2 rfl (by decide) _ i _ rfl OWN1.out ⟨wr.heap.size, 0, none⟩ 1 1 [.int .u32 (vv : Int)] rfl rfl C1.out (fun u hu => by simp at hu; subst hu; rfl) C3.out C4.out C5.out (by decide) ?_)
          intro v' w' own' hg hw
          have KA : Hid (Below W8.heap.size W8 (wr.alloc (.cells #[.int .u32 (vv : Int)] 60))) := Lib.hid (HK.out.alloc HK.out.size _)
          have HA : Hid (w'.ownsRow W8.heap.size 60 1 v' (i + 1) (u32V (List.range' x0 (i + 1)))) := Lib.hid (by
            rw [List.range'_1_concat, u32V_append, HV.out]; exact own')
          have HB : Hid (Below W8.heap.size W8 w') := Lib.hid (KA.out.grown hg KA.out.size (fun k hk => (OWN1.out.lt k hk).1))
          obtain ⟨av, dv, rfl⟩ := own_shape own'
          clear own' hg hw C1 C3 C4 C5 OWN1 KA
          go_wp2_with fail
          go_roundw
          case rel => exact ⟨i + 1, by go_num, by omega, HA.out, HB.out⟩
          case measure => simp [intOf]; omega
        · obtain rfl : i = N := by omega
          have i1 : decide ((i : Int) < (i : Int)) = false := decide_eq_false (by omega)
          obtain ⟨a2, cap2, hv, hc2, LV2⟩ := lv_own (l := List.range' x0 i) (by rw [List.length_range']; omega) (fun u hu => by rw [List.mem_range'_1] at hu; omega) (by rw [List.length_range']; exact HO.out)
          rw [List.length_range'] at hv hc2
          injection hv with hv1 _ hv2
          subst hv1 hv2
          have HR : Ris (List.range' x0 i) := range_ris x0 i (by omega)
          have M3 : MayN X (List.range' x0 i) [] 0 ⟨16, 2, 3⟩ := ⟨⟨by decide, by decide, by decide, by decide⟩, hX, HR, ⟨List.Pairwise.nil, fun v h => by cases h⟩, Nat.zero_le _, .inr rfl⟩
          have M16 : MayN X (List.range' x0 i) [] 0 ⟨16, 2, 16⟩ := ⟨⟨by decide, by decide, by decide, by decide⟩, hX, HR, ⟨List.Pairwise.nil, fun v h => by cases h⟩, Nat.zero_le _, .inr rfl⟩
          have LE := few_same X x0 i hN1
          have K9 := Lib.hid (KB.out.trans (HK.out.mono KB.out.size))
          have LN : ∀ W, LV W none [] := fun W => ⟨Nat.zero_le _, fun i h => by cases h⟩
          have hcc : (List.range' x0 i).length ≤ sc := by rw [List.length_range']; exact hc2
          obtain ⟨l2, hl2⟩ : ∃ k, (lay X (List.range' x0 i) [] 0 ⟨16, 2, 16⟩).length = k := ⟨_, rfl⟩
          have B3 : Hid (∀ W, Below wr.heap.size wr W → Calls Tryd.prog 9 #[.int .i64 (X : Int), .slice sv i sc, .slice none 0 0, .int .i64 0, .agg #[.int .i64 16, .int .i64 2, .int .i64 3]] W fun e w' => e = .returned (.tuple #[.int .i64 (l2 : Int), .int .i64 0]) ∧ Below W.heap.size W w') := Lib.hid (fun W k => by
            have h := lbits_yes ⟨16, 2, 3⟩ X W (G.out.below (K9.out.trans (k.mono K9.out.size))) sv (List.range' x0 i) sc none [] 0 0 hcc (Nat.le_refl _) M3 (LV2.below k) (LN W)
            rw [LE, hl2, List.length_range'] at h
            exact h)
          have B16 : Hid (∀ W, Below wr.heap.size wr W → Calls Tryd.prog 9 #[.int .i64 (X : Int), .slice sv i sc, .slice none 0 0, .int .i64 0, .agg #[.int .i64 16, .int .i64 2, .int .i64 16]] W fun e w' => e = .returned (.tuple #[.int .i64 (l2 : Int), .int .i64 0]) ∧ Below W.heap.size W w') := Lib.hid (fun W k => by
            have h := lbits_yes ⟨16, 2, 16⟩ X W (G.out.below (K9.out.trans (k.mono K9.out.size))) sv (List.range' x0 i) sc none [] 0 0 hcc (Nat.le_refl _) M16 (LV2.below k) (LN W)
            rw [hl2, List.length_range'] at h
            exact h)
          have rr := (HK.out.block _ (lt_of_block RS.out)).trans RS.out
          have c0 : wr.cell? ⟨sz, 0, none⟩ = some (.int .i64 16) := by rw [cell_of_row _ _ _ _ _ _ rr]; rfl
          have c1 : wr.cell? ⟨sz, 1, none⟩ = some (.int .i64 2) := by rw [cell_of_row _ _ _ _ _ _ rr]; rfl
          have c2 : wr.cell? ⟨sz, 2, none⟩ = some (.int .i64 3) := by rw [cell_of_row _ _ _ _ _ _ rr]; rfl
          clear rr LV2 HR M3 M16 LE LN hcc hl2
          go_wp2_with fail
          with_reducible refine (B3.out _ (Below.refl _ _)).mono ?_
          rintro e wa ⟨rfl, ka⟩
          have KA := Lib.hid ka
          clear ka c0 c1 c2
          go_wp2_with fail
          with_reducible refine (B16.out _ KA.out).mono ?_
          rintro e wb2 ⟨rfl, kb2⟩
          have KC := Lib.hid (K9.out.trans ((KA.out.trans (kb2.mono KA.out.size)).mono K9.out.size))
          clear kb2
          go_wp2_with fail
          with_reducible refine (AW.out _ KC.out).mono ?_
          rintro e wc ⟨rfl, kc⟩
          have KD := Lib.hid (KC.out.trans (kc.mono KC.out.size))
          clear kc
          go_wp2_with fail
          go_ret
          exact ⟨rfl, KD.out⟩
    · have j1 : decide ((0 : Int) < (n : Int)) = false := decide_eq_false (by omega)
      have j1n : decide (0 < n) = false := decide_eq_false hn0
      clear hA'
      go_wp2_with fail
      with_reducible refine LEN.out.mono ?_
      rintro e w9 ⟨rfl, rfl⟩
      clear h0 LEN AT
      go_wp2_with fail
      rw [hx0]
      go_loopw [18, 19] (fun vs vi wr => ∃ i : Nat, vi = .int .i64 (i : Int) ∧ i ≤ N ∧ wr.ownsRow W8.heap.size 60 1 vs i (u32V (List.range' x0 i)) ∧ Below W8.heap.size W8 wr) (fun _ vi _ => N - (intOf vi).toNat)
      case atStart => exact ⟨0, rfl, Nat.zero_le _, World.ownsRow_nil _ _ _ _, Below.refl _ _⟩
      case round =>
        obtain ⟨i, rfl, hi9, own, hk⟩ := hrel
        have HO := Lib.hid own
        have HK := Lib.hid hk
        obtain ⟨sv, sc, rfl⟩ := own_shape own
        clear own hk
        by_cases hlt : i < N
        · have i1 : decide ((i : Int) < (N : Int)) = true := decide_eq_true (by omega)
          have i2 : (i : Int) < (N : Int) := by omega
          obtain ⟨vv, hvv⟩ : ∃ v, x0 + i = v := ⟨_, rfl⟩
          have HV := Lib.hid hvv
          have OWN1 := Lib.hid (HO.out.alloc (.cells #[.int .u32 (vv : Int)] 60))
          have C1 : Hid (∀ j u, ([Value.int .u32 (vv : Int)] : List Value)[j]? = some u → (wr.alloc (.cells #[.int .u32 (vv : Int)] 60)).cell? ((⟨wr.heap.size, 0, none⟩ : Addr).add j) = some u) := Lib.hid (fun j u hu => by
            rw [Addr.add_lit, cell_of_row _ _ _ _ _ _ (heap_alloc_new _ _), Nat.zero_add]; simpa using hu)
          have C3 : Hid (i + 1 ≤ maxLen) := Lib.hid (by simp only [maxLen]; omega)
          have C4 : Hid ((i + 1) * 4 ≤ 140737488355328) := Lib.hid (by omega)
          have C5 : Hid (W8.heap.size ≤ (wr.alloc (.cells #[.int .u32 (vv : Int)] 60)).heap.size) := Lib.hid (by have := HK.out.size; simp; omega)
          have i3 : (x0 : Int) + (i : Int) = (vv : Int) := by omega
          have i4 : vv < 65536 := by omega
          clear hvv
          go_wp2_with (at_builtin; refine wpList_append_at _ rfl _ _ 29 rfl W8.heap.size 60 i0 _ 1 4 Tryd.underlying29 hi hz0 hz1 hz2 rfl (by decide) _ i _ rfl OWN1.out ⟨wr.heap.size, 0, none⟩ 1 1 [.int .u32 (vv : Int)] rfl rfl C1.out (fun u hu => by simp at hu; subst hu; rfl) C3.out C4.out C5.out (by decide) ?_)
          intro v' w' own' hg hw
          have KA : Hid (Below W8.heap.size W8 (wr.alloc (.cells #[.int .u32 (vv : Int)] 60))) := Lib.hid (HK.out.alloc HK.out.size _)
          have HA : Hid (w'.ownsRow W8.heap.size 60 1 v' (i + 1) (u32V (List.range' x0 (i + 1)))) := Lib.hid (by
            rw [List.range'_1_concat, u32V_append, HV.out]; exact own')
          have HB : Hid (Below W8.heap.size W8 w') := Lib.hid (KA.out.grown hg KA.out.size (fun k hk => (OWN1.out.lt k hk).1))
          obtain ⟨av, dv, rfl⟩ := own_shape own'
          clear own' hg hw C1 C3 C4 C5 OWN1 KA
          go_wp2_with fail
          go_roundw
          case rel => exact ⟨i + 1, by go_num, by omega, HA.out, HB.out⟩
          case measure => simp [intOf]; omega
        · obtain rfl : i = N := by omega
          have i1 : decide ((i : Int) < (i : Int)) = false := decide_eq_false (by omega)
          obtain ⟨a2, cap2, hv, hc2, LV2⟩ := lv_own (l := List.range' x0 i) (by rw [List.length_range']; omega) (fun u hu => by rw [List.mem_range'_1] at hu; omega) (by rw [List.length_range']; exact HO.out)
          rw [List.length_range'] at hv hc2
          injection hv with hv1 _ hv2
          subst hv1 hv2
          have HR : Ris (List.range' x0 i) := range_ris x0 i (by omega)
          have M3 : MayN X (List.range' x0 i) [] 0 ⟨16, 2, 3⟩ := ⟨⟨by decide, by decide, by decide, by decide⟩, hX, HR, ⟨List.Pairwise.nil, fun v h => by cases h⟩, Nat.zero_le _, .inr rfl⟩
          have M16 : MayN X (List.range' x0 i) [] 0 ⟨16, 2, 16⟩ := ⟨⟨by decide, by decide, by decide, by decide⟩, hX, HR, ⟨List.Pairwise.nil, fun v h => by cases h⟩, Nat.zero_le _, .inr rfl⟩
          have LE := few_same X x0 i hN1
          have K9 := Lib.hid (KB.out.trans (HK.out.mono KB.out.size))
          have LN : ∀ W, LV W none [] := fun W => ⟨Nat.zero_le _, fun i h => by cases h⟩
          have hcc : (List.range' x0 i).length ≤ sc := by rw [List.length_range']; exact hc2
          obtain ⟨l2, hl2⟩ : ∃ k, (lay X (List.range' x0 i) [] 0 ⟨16, 2, 16⟩).length = k := ⟨_, rfl⟩
          have B3 : Hid (∀ W, Below wr.heap.size wr W → Calls Tryd.prog 9 #[.int .i64 (X : Int), .slice sv i sc, .slice none 0 0, .int .i64 0, .agg #[.int .i64 16, .int .i64 2, .int .i64 3]] W fun e w' => e = .returned (.tuple #[.int .i64 (l2 : Int), .int .i64 0]) ∧ Below W.heap.size W w') := Lib.hid (fun W k => by
            have h := lbits_yes ⟨16, 2, 3⟩ X W (G.out.below (K9.out.trans (k.mono K9.out.size))) sv (List.range' x0 i) sc none [] 0 0 hcc (Nat.le_refl _) M3 (LV2.below k) (LN W)
            rw [LE, hl2, List.length_range'] at h
            exact h)
          have B16 : Hid (∀ W, Below wr.heap.size wr W → Calls Tryd.prog 9 #[.int .i64 (X : Int), .slice sv i sc, .slice none 0 0, .int .i64 0, .agg #[.int .i64 16, .int .i64 2, .int .i64 16]] W fun e w' => e = .returned (.tuple #[.int .i64 (l2 : Int), .int .i64 0]) ∧ Below W.heap.size W w') := Lib.hid (fun W k => by
            have h := lbits_yes ⟨16, 2, 16⟩ X W (G.out.below (K9.out.trans (k.mono K9.out.size))) sv (List.range' x0 i) sc none [] 0 0 hcc (Nat.le_refl _) M16 (LV2.below k) (LN W)
            rw [hl2, List.length_range'] at h
            exact h)
          have rr := (HK.out.block _ (lt_of_block RS.out)).trans RS.out
          have c0 : wr.cell? ⟨sz, 0, none⟩ = some (.int .i64 16) := by rw [cell_of_row _ _ _ _ _ _ rr]; rfl
          have c1 : wr.cell? ⟨sz, 1, none⟩ = some (.int .i64 2) := by rw [cell_of_row _ _ _ _ _ _ rr]; rfl
          have c2 : wr.cell? ⟨sz, 2, none⟩ = some (.int .i64 3) := by rw [cell_of_row _ _ _ _ _ _ rr]; rfl
          clear rr LV2 HR M3 M16 LE LN hcc hl2
          go_wp2_with fail
          with_reducible refine (B3.out _ (Below.refl _ _)).mono ?_
          rintro e wa ⟨rfl, ka⟩
          have KA := Lib.hid ka
          clear ka c0 c1 c2
          go_wp2_with fail
          with_reducible refine (B16.out _ KA.out).mono ?_
          rintro e wb2 ⟨rfl, kb2⟩
          have KC := Lib.hid (K9.out.trans ((KA.out.trans (kb2.mono KA.out.size)).mono K9.out.size))
          clear kb2
          go_wp2_with fail
          with_reducible refine (AW.out _ KC.out).mono ?_
          rintro e wc ⟨rfl, kc⟩
          have KD := Lib.hid (KC.out.trans (kc.mono KC.out.size))
          clear kc
          go_wp2_with fail
          go_ret
          exact ⟨rfl, KD.out⟩
end Go.Proofs.YtflnpcgnenhogaaDoor.ls
