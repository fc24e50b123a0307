/- The walks of the laws on GuessedHats. -/
import Derived.Test.YtacnngbjcchamaaHGuess
namespace Go.Proofs.Ytacnngbjcchamaa
open Go Go.RowKit
open M (nth)

set_option maxHeartbeats 1000000 in
theorem FnExactGuessedHats_w (w : World) (col : Int) (_hc : (Lit.int .i64 col).wf = true) (A : Option Addr) (n c : Nat) (xs : List Int) (h : RdI w A n xs) :
    Calls Try.prog 5 #[.int .i64 col, .slice A n c] w fun e w' => e = .returned (.bool true) ∧ Below w.heap.size w w' := by
  have hbig := h.big
  by_cases hn : 1048576 < n
  · go_enter Try.func5, Try.ntmps5
    go_wp2
    go_ret
    exact ⟨rfl, Below.refl _ _⟩
  · go_enter Try.func5, Try.ntmps5
    go_wp2_with fail
    refine (toIntS_c A n c xs _ h (by omega)).mono ?_
    rintro e w1 ⟨A1, n1, c1, rfl, ho1, hb1⟩
    go_wp2_with fail
    refine (sGuessedHats_c A1 n1 c1 xs col _ ho1.rd).mono ?_
    rintro e w2 ⟨AW, nW, cW, rfl, hW, hb2⟩
    go_wp2_with fail
    refine (toIntS_c A n c xs _ ((h.below hb1).below hb2) (by omega)).mono ?_
    rintro e w3 ⟨AX, nX, cX, rfl, hX, hb3⟩
    go_wp2_with fail
    refine (iGuessedHats_c AX nX cX xs col _ hX.rd).mono ?_
    rintro e w4 ⟨AG, nG, cG, rfl, hG, hb4⟩
    have hX4 := hX.below hb4
    have hW4 := (hW.below hb3).below hb4
    have h4 := (((h.below hb1).below hb2).below hb3).below hb4
    have b4 := bt hb1 (bt hb2 (bt hb3 hb4))
    have e0 := M.eqL_refl (M.guessed col xs)
    have e1 := M.eqL_refl xs
    have hlen : nG ≤ 1048576 := by have := hG.1; have := M.length_guessed col xs; omega
    go_wp2_with fail
    refine (eqIntS_c AG AW nG cG nW cW _ _ _ hG.rd hW4.rd).mono ?_
    rintro e w5 ⟨rfl, hq5⟩
    go_wp2_with fail
    refine (toIntS_c A n c xs _ (h4.quiet hq5) (by omega)).mono ?_
    rintro e w6 ⟨A6, n6, c6, rfl, ho6, hb6⟩
    have hX6 := (hX4.quiet hq5).below hb6
    have hW6 := (hW4.quiet hq5).below hb6
    have hG6 := (hG.quiet hq5).below hb6
    have h6 := (h4.quiet hq5).below hb6
    have b6 := bt b4 (bt (hq5.below _) hb6)
    have z1 := hb1.size
    have z2 := hb2.size
    have z3 := hb3.size
    have z4 := b4.size
    have z6 := b6.size
    clear hb1 hb2 hb3 hb4 hb6 ho1 h4 hX4 hW4
    go_wp2_with fail
    refine (eqIntS_c AX A6 nX cX n6 c6 xs xs _ hX6.rd ho6.rd).mono ?_
    rintro e w7 ⟨rfl, hq7⟩
    go_wp2_with fail
    refine (markIntS_c _ AX nX cX xs 1 _ (hX6.quiet hq7) (by omega) (by have := hX.1; have := h.len; omega)).mono ?_
    rintro e w8 ⟨rfl, hX8, hg8⟩
    have hW8 := (hW6.quiet hq7).kept hg8 (own_ne1 hW hX (by omega))
    have hG8 := (hG6.quiet hq7).kept hg8 (own_ne2 hX hG (by omega))
    have b8 : Below w.heap.size w w8 := (b6.trans (hq7.below _)).trans (below_own hX hg8 (by omega) (by have := (hq7.below 0).size; omega))
    have h8 := h.below b8
    clear hX8 hX6 hW6 hG6 b6 hg8 h6
    have hk8 : ¬ (1 : Int) + nX < 0 := by omega
    have hk8' : decide ((1 : Int) + nX < 0) = false := by simp; omega
    go_wp2_with fail
    refine (eqIntS_c AG AW nG cG nW cW _ _ _ hG8.rd hW8.rd).mono ?_
    rintro e w9 ⟨rfl, hq9⟩
    go_wp2_with fail
    refine (markIntS_c _ AG nG cG _ 1 _ (hG8.quiet hq9) (by omega) (by omega)).mono ?_
    rintro e w10 ⟨rfl, hG10, hg10⟩
    have hW10 := (hW8.quiet hq9).kept hg10 (own_ne1 hW hG (by omega))
    have b10 : Below w.heap.size w w10 := (b8.trans (hq9.below _)).trans (below_own hG hg10 (by omega) (by have := (hq9.below 0).size; have := b8.size; omega))
    clear hG8 hW8 b8 h8 hg10
    go_wp2_with fail
    refine (heldIntS_c AG nG cG 1 _ hG10.rd (by omega) (by omega)).mono ?_
    rintro e w11 ⟨rfl, hq11⟩
    have b11 := b10.trans (hq11.below _)
    go_wp2_with fail
    refine (toIntS_c A n c xs _ (h.below b11) (by omega)).mono ?_
    rintro e w12 ⟨A12, n12, c12, rfl, ho12, hb12⟩
    go_wp2_with fail
    refine (iGuessedHats_c A12 n12 c12 xs col _ ho12.rd).mono ?_
    rintro e w13 ⟨AH, nH, cH, rfl, hH, hb13⟩
    have hW13 := (((hW10.quiet hq11).below hb12).below hb13)
    have hG13 := (((hG10.quiet hq11).below hb12).below hb13)
    go_wp2_with fail
    refine (eqIntS_c AH AW nH cH nW cW _ _ _ hH.rd hW13.rd).mono ?_
    rintro e w14 ⟨rfl, hq14⟩
    go_wp2_with fail
    refine (heldIntS_c AG nG cG 1 _ (hG13.quiet hq14).rd (by omega) (by omega)).mono ?_
    rintro e w15 ⟨rfl, hq15⟩
    go_wp2
    go_ret
    exact ⟨rfl, bt (bt b11 (bt hb12 hb13)) ((hq14.trans hq15).below _)⟩

set_option maxHeartbeats 1000000 in
theorem FnGuessedHats_w (w : World) (A : Option Addr) (n c : Nat) (h : RdY w A n c) :
    Calls Try.prog 6 #[.slice A n c] w fun e w' => e = .returned (.bool true) ∧ Below w.heap.size w w' := by
  have hbig := h.big
  obtain ⟨i0, hi, hz0, hz1, hz2⟩ := info_parts Try.infoInt
  by_cases hn : 1048576 < n
  · go_enter Try.func6, Try.ntmps6
    go_wp2
    go_ret
    exact ⟨rfl, Below.refl _ _⟩
  · go_enter Try.func6, Try.ntmps6
    go_wp2_with fail
    refine (DrawGuessedHats_c A n c _ h).mono ?_
    rintro e w1 ⟨⟨col, A1, n1, c1, xs, rfl, h0, h1, h2, ho1⟩, hb1⟩
    go_wp2_with fail
    refine (iGuessedHats_c A1 n1 c1 xs col _ ho1.rd).mono ?_
    rintro e w2 ⟨AG, nG, cG, rfl, hG, hb2⟩
    go_wp2_with fail
    refine (sGuessedHats_c A1 n1 c1 xs col _ (ho1.below hb2).rd).mono ?_
    rintro e w3 ⟨AS, nS, cS, rfl, hS, hb3⟩
    have e0 := M.eqL_refl (M.guessed col xs)
    go_wp2_with fail
    refine (sameInts_c AG AS nG cG nS cS _ _ _ (hG.below hb3).rd hS.rd).mono ?_
    rintro e w4 ⟨rfl, hq4⟩
    have b4 := bt hb1 (bt hb2 (bt hb3 (hq4.below _)))
    have hG4 := (hG.below hb3).quiet hq4
    have ho4 := ((ho1.below hb2).below hb3).quiet hq4
    have z1 := hb1.size
    have z2 := hb2.size
    clear hb1 hb2 hb3 hq4 hS
    cases hok : M.hatsB col xs with
    | false =>
      have hn0 : nG = 0 := by have := hG.1; rw [M.guessed_not hok] at this; exact this.symm
      subst hn0
      go_wp2_with fail
      refine (iHatsOk_c A1 n1 c1 xs col _ ho4.rd).mono ?_
      rintro e w5 ⟨rfl, hb5⟩
      go_wp2_with fail
      refine (alive_c _).mono ?_
      rintro e w' ⟨rfl, rfl⟩
      go_wp2
      go_ret
      exact ⟨rfl, bt b4 hb5⟩
    | true =>
      obtain ⟨⟨hc1, hc5⟩, ⟨hn1, hn5⟩, hall⟩ := M.hats_iff.1 hok
      rw [ho1.1] at hn1 hn5
      have hnG : nG = n1 := by have := hG.1; rw [M.guessed_ok hok, M.length_gpre, ho1.1] at this; exact this.symm
      subst hnG
      have hn0 : ((nG : Int) == 0) = false := by simp; omega
      have Hall := Lib.hid hall
      clear hall
      obtain ⟨g, rfl, hg0, hg1⟩ := ho4.at0 (by omega)
      go_wp2_with fail
      go_loopw [6] (fun i wr => ∃ k : Nat, k ≤ nG ∧ i = .int .i64 k ∧ Below w4.heap.size w4 wr) (fun i _ => nG - (intOf i).toNat)
      case atStart => exact ⟨0, Nat.zero_le _, rfl, Below.refl _ _⟩
      case round =>
        obtain ⟨k, hk, rfl, hbr⟩ := hrel
        have hor := ho4.below hbr
        have hGr := hG4.below hbr
        by_cases hlt : k < nG
        · have hol := (ownI_lit0 wr wr.heap.size (Nat.le_refl _)).2
          have hor1 := hor.alloc (.cells #[] 3)
          go_wp2_with (at_builtin; refine wpList_append_own _ rfl _ _ 22 rfl wr.heap.size 3 i0 (.int .i64 0) 1 8 Try.underlying22 hi hz0 hz1 hz2 rfl (by decide) _ _ _ rfl hol ⟨g, 0, none⟩ nG c1 (xs.map (Value.int .i64)) rfl (by simp [hor.1]) (hor1.2.cells (g := g) rfl) (ints_oneCell .i64 xs) (by unfold maxLen; omega) (by omega) (by simp) ?_)
          intro v' w5 hown5 hgrow5 _
          obtain ⟨Ao, co, rfl, ho5⟩ := OwnI.appendedL hor.1 hown5
          obtain ⟨go, rfl, hgo, hgo'⟩ := ho5.at0 (by omega)
          have hb5 : Below wr.heap.size wr w5 := ((Below.refl _ wr).alloc (Nat.le_refl _) _).grown hgrow5 (by simp) (fun j hj => by cases hj; exact Nat.le_refl _)
          have hor5 := hor.below hb5
          have hco := ho5.cell hlt
          have hfo := ho5.free k
          have hch := hor5.cell hlt
          have hx := Hall.out k (by rw [hor.1]; exact hlt)
          go_wp2_with fail
          refine (iGuessedHats_c _ _ _ _ col _ (ho5.stored k _).1.rd).mono ?_
          rintro e w6 ⟨AH, nH, cH, rfl, hH, hb6⟩
          have hk5 := M.hats_other hok k (by rw [hor.1]; exact hlt)
          have hnH : nH = nG := by have := hH.1; rw [M.guessed_ok hk5, M.length_gpre, List.length_set, hor.1] at this; exact this.symm
          subst hnH
          have hG6 := ((hGr.below hb5).kept (ho5.stored k _).2 (own_ne1 hG4 ho5 hbr.size)).below hb6
          obtain ⟨gH, rfl, hgH, hgH'⟩ := hH.at0 (by omega)
          obtain ⟨gG, rfl, hgG, hgG'⟩ := hG6.at0 (by omega)
          have cH' := hH.cell hlt
          have cG' := hG6.cell hlt
          have eH := M.guess_other' hok k (by rw [hor.1]; exact hlt)
          rw [eH] at cH'
          have e1 : ((nH : Int) != (nH : Int)) = false := by simp
          have e2 : (nth (M.guessed col xs) k == nth (M.guessed col xs) k) = true := by simp
          go_wp2_with fail
          go_quiet (fail)
          go_wp2_with fail
          go_roundw
          case rel =>
            refine ⟨k + 1, by omega, by go_num, ?_⟩
            have hs := hb5.setCell (p := ⟨go, k, none⟩) hgo (.int .i64 ((nth xs k + 1) % col))
            exact Below.quiet (bt hbr (bt hs hb6)) (Quiet.drewN (Quiet.refl _) _)
          case measure => simp [intOf]; omega
        · go_wp2_with fail
          refine (iHatsOk_c AG nG cG _ col _ hGr.rd).mono ?_
          rintro e w5 ⟨rfl, hb5⟩
          have e5 := M.guessed_hats hok
          go_wp2
          go_ret
          exact ⟨rfl, bt b4 (bt hbr hb5)⟩

end Go.Proofs.Ytacnngbjcchamaa
