/- The walk of the law on AfterNo. -/
import Derived.Test.YtdpbjepjiloeaaaKnL3
import Derived.Deep.RegionHeld3
namespace Go.Proofs.Ytdpbjepjiloeaaa
open Go Go.RowKit
open M (nth)

theorem M.known_sum {xs : List Int} (h : M.knownB xs = true) : M.sumFits xs ∧ 0 ≤ M.sumL xs ∧ M.sumL xs ≤ 10 := by
  obtain ⟨k1, k2, k3, k4⟩ := M.known_parts h
  have hall : M.allB xs 0 10 = true := M.allB_iff.2 k3
  have := M.sumL_bounds xs 0 10 hall
  exact ⟨M.sumFits_of hall (by omega) (by omega) (by omega), by omega, k4⟩
theorem M.no_sub {row q : List Int} (h : M.splitB row q = true) : M.yesL row (M.sub row q) = M.noL row q := by
  rw [M.yes_ok (M.split_sub h), M.no_ok h]

set_option maxHeartbeats 4000000 in
theorem FnAfterNo_w (w : World) (A : Option Addr) (n c : Nat) (h : RdY w A n c) :
    Calls Try.prog 4 #[.slice A n c] w fun e w' => e = .returned (.bool true) ∧ Below w.heap.size w w' := by
  obtain ⟨i0, hi, hz0, hz1, hz2⟩ := info_parts Try.infoInt
  have hbig := h.big
  by_cases hn : 1048576 < n
  · go_enter Try.func4, Try.ntmps4
    go_wp2
    go_ret
    exact ⟨rfl, Below.refl _ _⟩
  · go_enter Try.func4, Try.ntmps4
    go_wp2_with fail
    refine (DrawAfterNo_c A n c _ h).mono ?_
    rintro e w1 ⟨⟨A', m, c', xs, B, k, d, ys, rfl, hm, hk, ho, ho'⟩, hbel⟩
    go_wp2_with fail
    refine (iAfterNo_c _ _ A' B m c' k d xs ys _ ho ho').mono ?_
    rintro e w3 ⟨AG, nG, cG, rfl, hG, hb3⟩
    have b3 := bt hbel hb3
    go_wp2_with fail
    refine (sAfterNo_c A' B m c' k d xs ys _ (ho.below hb3).rd (ho'.below hb3).rd (by omega)).mono ?_
    rintro e w4 ⟨AW, nW, cW, rfl, hW, hb4⟩
    have b4 := bt b3 hb4
    have hG4 := hG.below hb4
    have e0 := M.eqL_refl (M.noL xs ys)
    go_wp2_with fail
    refine (sameInts_c AG AW nG cG nW cW _ _ _ hG4.rd hW.rd).mono ?_
    rintro e w5 ⟨rfl, hq5⟩
    rw [e0]
    have b5 := Below.quiet b4 hq5
    have hG5 := hG4.quiet hq5
    have hX5 := ((ho.below hb3).below hb4).quiet hq5
    have hY5 := ((ho'.below hb3).below hb4).quiet hq5
    have hlG := hG.1
    clear hW hG hG4 e0 ho ho'
    rcases M.yes_cases xs ys with ⟨c0, c1, c2'⟩ | ⟨c0, c1, c2', c3, c4, c5⟩
    · rw [c2'] at hlG
      obtain rfl : nG = 0 := by simpa using hlG.symm
      go_wp2_with fail
      refine (alive_c _).mono ?_
      rintro e w' ⟨rfl, rfl⟩
      go_wp2
      go_ret
      exact ⟨rfl, b5⟩
    · have k1 := (M.known_parts c2').1
      have hG0 : ((nG : Int) == 0) = false := by simp; omega
      obtain ⟨s1, s2, s3⟩ := M.split_parts c0
      obtain ⟨j1, j2, j3, -⟩ := M.known_parts s1
      have hlx := hX5.1
      have hly := hY5.1
      obtain rfl : k = m := by omega
      have hsl := M.length_sub xs ys
      have hb0 : Below w5.heap.size w5 (w5.alloc (.cells #[] 3)) := (Below.refl _ _).alloc (Nat.le_refl _) _
      have ho0 := ownI_lit0 w5 w5.heap.size (Nat.le_refl _)
      have C0 := Lib.hid c0
      have C1 := Lib.hid c1
      have C2 := Lib.hid c2'
      have J3 := Lib.hid j3
      have S3 := Lib.hid s3
      clear c0 c1 c2' j3 s3 s1
      have hsz5 := b5.size
      go_wp2_with fail
      go_loopg [6, 7] k (fun g v i wr => ∃ (j : Nat) (B' : Option Addr) (q d' : Nat), j + g = k ∧ i = .int .i64 j ∧ v = .slice B' q d' ∧ OwnI wr w5.heap.size B' q d' ((M.sub xs ys).take j) ∧ Below w5.heap.size w5 wr)
      case atStart => exact ⟨0, _, _, _, by omega, rfl, rfl, by simpa using ho0, hb0⟩
      case round =>
        obtain ⟨j, B', q, d', hjk, rfl, rfl, hor, hbr⟩ := hrel
        have hq : q = j := by have := hor.1; rw [List.length_take, hsl] at this; omega
        subst hq
        have hz := hbr.size
        by_cases hlt : q < k
        · obtain ⟨g, rfl⟩ : ∃ g, gk = g + 1 := ⟨gk - 1, by omega⟩
          obtain ⟨ad, hAd, _, hcx⟩ := (hX5.below hbr).rd.at_ hlt
          obtain ⟨ad', hBd, _, hcy⟩ := (hY5.below hbr).rd.at_ hlt
          subst hAd
          subst hBd
          have hx0 := J3.out q (by omega)
          have hy0 := S3.out q (by omega)
          have Htk := Lib.hid (M.sub_take (xs := xs) (ys := ys) (k := q) (by omega))
          have t2 : IntKind.i64.wrap (nth xs q - nth ys q) = nth xs q - nth ys q := by rw [IntKind.wrap_i64]; omega
          have hdr : World.ownsRow wr.drew w5.heap.size 3 1 (.slice B' q d') q (((M.sub xs ys).take q).map (Value.int .i64)) := hor.2
          go_wp2_with fail
          go_region_law (refine step_own rfl (wp_append_own _ _ _ 23 rfl w5.heap.size 3 i0 (.int .i64 0) 1 8 Try.underlying23 hi hz0 hz1 hz2 rfl (by decide) _ _ _ rfl (hdr.alloc _) ⟨_, 0, none⟩ 1 1 [.int .i64 _] rfl rfl (cell_one_new _ _ _) (by simp [Value.oneCell']) (by unfold maxLen; omega) (by omega) (by simp; omega) ?_); intro v' w6 hown6 hgrow6 _)
          all_goals
            have bdr : Below w5.heap.size w5 wr.drew := Below.quiet hbr ⟨1, rfl⟩
            obtain ⟨g', cap', rfl, ho6, hg6, hg6'⟩ := OwnI.appended hor.1 hown6
            have hB6 : Below w5.heap.size w5 w6 := (bdr.alloc bdr.size _).grown hgrow6 (by have := bdr.size; simp; omega) (fun j hj => by
              cases B' with
              | none => cases hj
              | some ad => cases hj; exact hor.lt.1)
            rw [← Htk.out] at ho6
            go_wp2
            go_roundg g
            case measure => omega
            case rel => exact ⟨q + 1, _, _, _, by omega, by go_num, rfl, ho6, hB6⟩
        · obtain rfl : q = k := by omega
          rw [List.take_of_length_le (by omega)] at hor
          obtain ⟨ad, hAd, _, hcx⟩ := (hX5.below hbr).rd.at_ (k := 0) (show 0 < q by omega)
          subst hAd
          have hXr := hX5.below hbr
          have hYr := hY5.below hbr
          have hGr := hG5.below hbr
          have br := bt b5 hbr
          obtain ⟨f1, u1, u2⟩ := M.known_sum C1.out
          obtain ⟨f2, u3, u4⟩ := M.known_sum C2.out
          obtain ⟨f3, u5, u6⟩ := M.known_sum (M.split_parts C0.out).1
          have hlaw := M.sum_law C0.out
          have hx0 := J3.out 0 (by omega)
          have e1 := M.eqL_refl (M.noL xs ys)
          have cA : ∀ W, Below wr.heap.size wr W → Calls Try.prog 19 #[.slice (some ad) q c', .slice B' q d'] W fun e w' => ∃ A1 n1 k1, e = .returned (.slice A1 n1 k1) ∧ RdI w' A1 n1 (M.noL xs ys) ∧ Below wr.heap.size wr w' := fun W hb => by
            refine (iAfterYes_c _ _ (some ad) B' q c' q d' xs (M.sub xs ys) W (hXr.below hb) (hor.below hb)).mono ?_
            rintro e w' ⟨A1, n1, k1, rfl, ho1, hb1⟩
            rw [M.no_sub C0.out] at ho1
            exact ⟨_, _, _, rfl, ho1.rd, bt hb hb1⟩
          have cB : ∀ W, Below wr.heap.size wr W → Calls Try.prog 19 #[.slice (some ad) q c', .slice B q d] W fun e w' => ∃ A1 n1 k1, e = .returned (.slice A1 n1 k1) ∧ RdI w' A1 n1 (M.yesL xs ys) ∧ Below wr.heap.size wr w' := fun W hb => by
            refine (iAfterYes_c _ _ (some ad) B q c' q d xs ys W (hXr.below hb) (hYr.below hb)).mono ?_
            rintro e w' ⟨A1, n1, k1, rfl, ho1, hb1⟩
            exact ⟨_, _, _, rfl, ho1.rd, bt hb hb1⟩
          have cS : ∀ W A1 n1 k1, RdI W A1 n1 (M.noL xs ys) → Below wr.heap.size wr W → Calls Try.prog 17 #[.slice A1 n1 k1, .slice AG nG cG] W fun e w' => e = .returned (.bool true) ∧ Below wr.heap.size wr w' := fun W A1 n1 k1 h1 hb => by
            refine (sameInts_c A1 AG n1 k1 nG cG _ _ W h1 (hGr.below hb).rd).mono ?_
            rintro e w' ⟨rfl, hq⟩
            exact ⟨by rw [e1], Below.quiet hb hq⟩
          have cN : ∀ W, Below wr.heap.size wr W → Calls Try.prog 20 #[.slice AG nG cG] W fun e w' => e = .returned (.int .i64 (M.sumL (M.noL xs ys))) ∧ Below wr.heap.size wr w' := fun W hb => (sumOf_c AG nG cG _ W (hGr.below hb).rd f2).mono fun _ _ ⟨x, y⟩ => ⟨x, y ▸ hb⟩
          have cY : ∀ W A1 n1 k1, RdI W A1 n1 (M.yesL xs ys) → Below wr.heap.size wr W → Calls Try.prog 20 #[.slice A1 n1 k1] W fun e w' => e = .returned (.int .i64 (M.sumL (M.yesL xs ys))) ∧ Below wr.heap.size wr w' := fun W A1 n1 k1 h1 hb => (sumOf_c A1 n1 k1 _ W h1 f1).mono fun _ _ ⟨x, y⟩ => ⟨x, y ▸ hb⟩
          have cX : ∀ W, Below wr.heap.size wr W → Calls Try.prog 20 #[.slice (some ad) q c'] W fun e w' => e = .returned (.int .i64 (M.sumL xs)) ∧ Below wr.heap.size wr w' := fun W hb => (sumOf_c (some ad) q c' _ W (hXr.below hb).rd f3).mono fun _ _ ⟨x, y⟩ => ⟨x, y ▸ hb⟩
          have hce : ∀ W, Below wr.heap.size wr W → W.cell? ad = some (.int .i64 (nth xs 0)) := fun W hb => by
            obtain ⟨ad2, e2, _, hc2⟩ := (hXr.below hb).rd.at_ (k := 0) (show 0 < q by omega)
            obtain rfl := Option.some.inj e2
            rwa [Addr.add_zero'] at hc2
          have CA := Lib.hid cA
          have CB := Lib.hid cB
          have CS := Lib.hid cS
          have CN := Lib.hid cN
          have CY := Lib.hid cY
          have CX := Lib.hid cX
          have CE := Lib.hid hce
          have bD : Below wr.heap.size wr wr.drew := (Quiet.refl wr).drew.below _
          generalize hS1 : M.sumL (M.noL xs ys) = S1 at *
          generalize hS2 : M.sumL (M.yesL xs ys) = S2 at *
          generalize hS3 : M.sumL xs = S3' at *
          generalize hX0 : nth xs 0 = X0 at *
          have t1 : IntKind.i64.wrap (S1 + S2) = S1 + S2 := by rw [IntKind.wrap_i64]; omega
          have t2 : IntKind.i64.wrap (2 * S3') = 2 * S3' := by rw [IntKind.wrap_i64]; omega
          have t3 : IntKind.i64.wrap (2 * S3' - X0) = 2 * S3' - X0 := by rw [IntKind.wrap_i64]; omega
          have t4 : (S1 + S2 == 2 * S3' - X0) = true := by rw [beq_iff_eq]; exact hlaw
          have hq0 : (0 : Int) < (q : Int) := by omega
          have hq1 : 0 < q := by omega
          clear cA cB cS cN cY cX hce hlaw hS1 hS2 hS3 hX0 e1
          go_wp2_with fail
          go_region_held3 (fun W => Below wr.heap.size wr W ∧ W.cell? ad = some (.int .i64 X0)) (exact ⟨by assumption, CE.out _ (by assumption)⟩) (first
            | (go_at_call 19; with_reducible refine (CA.out _ (by assumption)).mono ?_; clear CA; rintro e w' ⟨A1, n1, k1, rfl, hr1, hbb⟩)
            | (go_at_call 19; with_reducible refine (CB.out _ (by assumption)).mono ?_; clear CB; rintro e w' ⟨A1, n1, k1, rfl, hr1, hbb⟩)
            | (go_at_call 17; with_reducible refine (CS.out _ _ _ _ (by assumption) (by assumption)).mono ?_; rintro e w' ⟨rfl, hbb⟩)
            | (go_at_call 20; with_reducible refine (CN.out _ (by assumption)).mono ?_; clear CN; rintro e w' ⟨rfl, hbb⟩)
            | (go_at_call 20; with_reducible refine (CX.out _ (by assumption)).mono ?_; clear CX; rintro e w' ⟨rfl, hbb⟩)
            | (go_at_call 20; with_reducible refine (CY.out _ _ _ _ (by assumption) (by assumption)).mono ?_; rintro e w' ⟨rfl, hbb⟩))
          all_goals
            go_wp2
            go_ret
            exact ⟨rfl, bt br (by assumption)⟩

end Go.Proofs.Ytdpbjepjiloeaaa
