/- The walk of the law on AllHats. -/
import Derived.Test.YtacnngbjcchamaaHatL5
namespace Go.Proofs.Ytacnngbjcchamaa
open Go Go.RowKit
open M (nth)

theorem M.powN_big : ∀ p : Nat, p < 7 → ∀ c : Nat, c < 7 → M.powN c p ≤ 46656 := by decide +kernel

theorem put_lit (l : List Value) (d : List Deferred) (i : Nat) (v : Value) : Act.put ⟨l.toArray, d⟩ (some i) v = ⟨(l.set i v).toArray, d⟩ := by simp [Act.put]
theorem with_hQ {P : Program} {md : Region.Mode} {ops : Array Oper} {Q : Exit → Act → World → Prop} {S : World → Prop} {fuel : Nat} {listed : Array Bool} {a : Act} {w : World}
    (hQ : ∀ (c : List PanicEntry) (a : Act) (d : Nat) (v : Value) (w : World), Q (.panic c) (a.put (some d) v) w → Q (.panic c) a w) (h : (∀ (c : List PanicEntry) (a : Act) (d : Nat) (v : Value) (w : World), Q (.panic c) (a.put (some d) v) w → Q (.panic c) a w) → wpAnyH P md ops Q S fuel listed a w) : wpAnyH P md ops Q S fuel listed a w := h hQ

set_option maxHeartbeats 4000000 in
theorem FnAllHats_w (w : World) (A : Option Addr) (n c : Nat) (h : RdY w A n c) :
    Calls Try.prog 14 #[.slice A n c] w fun e w' => e = .returned (.bool true) ∧ Below w.heap.size w w' := by
  have hbig := h.big
  by_cases hn : 1048576 < n
  · go_enter Try.func14, Try.ntmps14
    go_wp2
    go_ret
    exact ⟨rfl, Below.refl _ _⟩
  · go_enter Try.func14, Try.ntmps14
    go_wp2_with fail
    refine (DrawAllHats_c A n c _ h).mono ?_
    rintro e w1 ⟨⟨p, q, rfl, hp, hq⟩, hb1⟩
    have hle := M.ways_len_le (p : Int) (q : Int)
    have Hbig := Lib.hid fun k (hk : k ≤ 6) => M.powN_big k (by omega) q (by omega)
    go_wp2_with fail
    refine (iAllHats_c p q _).mono ?_
    rintro e w2 ⟨AG, nG, cG, rfl, hG, hb2⟩
    go_wp2_with fail
    refine (sAllHats_c p q _).mono ?_
    rintro e w3 ⟨AW, nW, cW, rfl, hW, hb3⟩
    have hG3 := hG.kept hb3
    go_wp2_with fail
    refine (sameRows_c _ _ AG AW nG cG nW cW _ _ hG3 hW).mono ?_
    rintro e w4 ⟨rfl, hq4⟩
    have hG4 := hG3.quiet hq4
    have b4 := (bt hb1 (bt hb2 hb3)).trans (hq4.below _)
    have hlen := hG4.len
    have hn5 : nG ≤ 1000 := by omega
    have hmany : nG = 0 ∨ nG = M.powN q p := by
      cases hw : M.waysOk (p : Int) (q : Int) with
      | false => rw [M.ways_no hw] at hlen; exact .inl hlen.symm
      | true => have := M.ways_len hw; rw [hlen] at this; exact .inr this
    have Hlen := Lib.hid hlen
    clear hG hG3 hW hb1 hb2 hb3 hq4 hlen hle
    go_wp2_with fail
    go_loop [6, 7] (fun s i => ∃ k : Nat, k ≤ p ∧ i = .int .i64 k ∧ s = .int .i64 (M.powN q k : Nat)) (fun _ i => p - (intOf i).toNat)
    case atStart => exact ⟨0, Nat.zero_le _, rfl, rfl⟩
    case round =>
      obtain ⟨k, hk, rfl, rfl⟩ := hrel
      have h1 := Hbig.out k (by omega)
      by_cases hlt : k < p
      · have h2 := Hbig.out (k + 1) (by omega)
        have Hs := Lib.hid (show ((M.powN q (k + 1) : Nat) : Int) = ((M.powN q k : Nat) : Int) * (q : Int) by simp [M.powN])
        have Hw := Lib.hid (show wrap64 (((M.powN q k : Nat) : Int) * (q : Int)) = ((M.powN q k : Nat) : Int) * (q : Int) by rw [← Hs.out, wrap64]; omega)
        have Hmany := Lib.hid hmany
        clear hmany
        go_wp2
        go_round
        case rel => exact ⟨k + 1, by omega, by go_num, by rw [Hs.out, Hw.out]⟩
        case measure => simp [intOf]; omega
      · obtain rfl : k = p := by omega
        generalize M.powN q k = T at *
        have Hmany := Lib.hid hmany
        clear hmany
        go_wp2_with fail
        go_loopw [8] (fun i wr => ∃ j : Nat, j ≤ nG ∧ i = .int .i64 j ∧ Below w4.heap.size w4 wr) (fun i _ => nG - (intOf i).toNat)
        case atStart => exact ⟨0, Nat.zero_le _, rfl, Below.refl _ _⟩
        case round =>
          obtain ⟨j, hj, rfl, hbr⟩ := hrel
          have hGr := hG4.kept hbr
          by_cases hlt2 : j < nG
          · obtain ⟨hok, hlp, -⟩ := M.ways_row (p := (k : Int)) (c := (q : Int)) (k := j) (by rw [Hlen.out]; exact hlt2)
            obtain ⟨g, A1, n1, c1, rfl, hc1, ho1⟩ := hGr.at_ hlt2
            obtain rfl : n1 = k := by have := ho1.1; omega
            have hH : ∀ W, Below wr.heap.size wr W → Calls Try.prog 19 #[.int .i64 q, .slice A1 n1 c1] W fun e w' => e = .returned (.bool true) ∧ Below wr.heap.size wr w' := fun W hb => by
              have := iHatsOk_c A1 n1 c1 _ q W (ho1.below hb).rd
              rw [hok] at this
              exact this.mono fun _ _ h => ⟨h.1, bt hb h.2⟩
            have HH := Lib.hid hH
            have bD : Below wr.heap.size wr wr.drew := (Quiet.refl wr).drew.below _
            have hglt : g < wr.heap.size := World.block_lt_of_cell? _ _ hc1
            have C1 := Lib.hid (fun W (hb : Below wr.heap.size wr W) => (hb.cell (p := ⟨g, j, none⟩) hglt).trans hc1)
            have t1 : ((n1 : Int) != (n1 : Int)) = false := by simp
            clear hH hok hlp
            by_cases hj0 : j = 0
            · subst hj0
              have ix0 : (0 : Int) < (nG : Int) := by omega
              clear hc1
              rw [show ((0 : Nat) : Int) = 0 from rfl]
              go_wp2_with fail
              refine wp_region_held_drew (S := fun W => Below wr.heap.size wr W ∧ W.cell? ⟨g, 0, none⟩ = some (.slice A1 n1 c1)) (by kernel_rfl) ⟨bD, C1.out _ bD⟩ (fun hHeld => ?_)
              refine with_hQ (fun _ _ _ _ _ h => h) (fun hQ => ?_)
              refine wpAnyH_take (i := 0) (oi := { dst := some 40, op := _, type := _, pos := _, after := _, guard := _ }) (v := ?v0) rfl (by kernel_rfl) (by kernel_rfl) (by kernel_rfl) (fun c v w h => hQ c _ _ _ w h) (Or.inl ⟨by rfl, ?y0⟩) (by assumption) ?r0
              case y0 =>
                rintro w ⟨hSb, hSw⟩
                go_simp
                try with_reducible rfl
              case r0 =>
              simp only [put_lit, List.set]
              refine wpAnyH_take (i := 1) (oi := { dst := some 41, op := _, type := _, pos := _, after := _, guard := _ }) (v := ?v1) rfl (by kernel_rfl) (by kernel_rfl) (by kernel_rfl) (fun c v w h => hQ c _ _ _ w h) (Or.inl ⟨by rfl, ?y1⟩) (by assumption) ?r1
              case y1 =>
                rintro w ⟨hSb, hSw⟩
                go_simp
                try with_reducible rfl
              case r1 =>
              simp only [put_lit, List.set]
              refine wpAnyH_take (i := 2) (oi := { dst := some 42, op := _, type := _, pos := _, after := _, guard := _ }) (v := ?v2) rfl (by kernel_rfl) (by kernel_rfl) (by kernel_rfl) (fun c v w h => hQ c _ _ _ w h) (Or.inl ⟨by rfl, ?y2⟩) (by assumption) ?r2
              case y2 =>
                rintro w ⟨hSb, hSw⟩
                go_simp
                try with_reducible rfl
              case r2 =>
              simp only [put_lit, List.set]
              refine wpAnyH_take (i := 3) (oi := { dst := some 43, op := _, type := _, pos := _, after := _, guard := _ }) (v := ?v3) rfl (by kernel_rfl) (by kernel_rfl) (by kernel_rfl) (fun c v w h => hQ c _ _ _ w h) (Or.inl ⟨by rfl, ?y3⟩) (by assumption) ?r3
              case y3 =>
                rintro w ⟨hSb, hSw⟩
                go_simp
                try with_reducible rfl
              case r3 =>
              simp only [put_lit, List.set]
              refine wpAnyH_take (i := 4) (oi := { dst := some 44, op := _, type := _, pos := _, after := _, guard := _ }) (v := ?v4) rfl (by kernel_rfl) (by kernel_rfl) (by kernel_rfl) (fun c v w h => hQ c _ _ _ w h) (Or.inl ⟨by rfl, ?y4⟩) (by assumption) ?r4
              case y4 =>
                rintro w ⟨hSb, hSw⟩
                go_simp
                try with_reducible rfl
              case r4 =>
              simp only [put_lit, List.set]
              refine wpAnyH_ready (rs := [5]) (by kernel_rfl) (by simp) ?_
              refine AllReadyH.cons (o := { dst := some 45, op := _, type := _, pos := _, after := _, guard := _ }) rfl (fun K hK => ?_) AllReadyH.nil
              go_simp
              refine (HH.out _ hHeld.1).mono ?_
              rintro e w' ⟨rfl, hbb⟩
              dsimp only
              refine hK.out _ _ ?_ (fun hHeld2 => ?_)
              · exact ⟨hbb, C1.out _ hbb⟩
              clear hK K
              refine wpAnyH_take (i := 6) (oi := { dst := some 46, op := _, type := _, pos := _, after := _, guard := _ }) (v := ?v6) rfl (by kernel_rfl) (by kernel_rfl) (by kernel_rfl) (fun c v w h => hQ c _ _ _ w h) (Or.inl ⟨by rfl, ?y6⟩) (by assumption) ?r6
              case y6 =>
                rintro w ⟨hSb, hSw⟩
                go_simp
                try with_reducible rfl
              case r6 =>
              simp only [put_lit, List.set]
              refine wpAnyH_take (i := 7) (oi := { dst := some 47, op := _, type := _, pos := _, after := _, guard := _ }) (v := ?v7) rfl (by kernel_rfl) (by kernel_rfl) (by kernel_rfl) (fun c v w h => hQ c _ _ _ w h) (Or.inl ⟨by rfl, ?y7⟩) (by assumption) ?r7
              case y7 =>
                rintro w ⟨hSb, hSw⟩
                go_simp
                try with_reducible rfl
              case r7 =>
              simp only [put_lit, List.set]
              refine wpAnyH_take (i := 8) (oi := { dst := some 48, op := _, type := _, pos := _, after := _, guard := _ }) (v := ?v8) rfl (by kernel_rfl) (by kernel_rfl) (by kernel_rfl) (fun c v w h => hQ c _ _ _ w h) (Or.inl ⟨by rfl, ?y8⟩) (by assumption) ?r8
              case y8 =>
                rintro w ⟨hSb, hSw⟩
                go_simp
                try with_reducible rfl
              case r8 =>
              simp only [put_lit, List.set]
              refine wpAnyH_take (i := 9) (oi := { dst := some 49, op := _, type := _, pos := _, after := _, guard := _ }) (v := ?v9) rfl (by kernel_rfl) (by kernel_rfl) (by kernel_rfl) (fun c v w h => hQ c _ _ _ w h) (Or.inl ⟨by rfl, ?y9⟩) (by assumption) ?r9
              case y9 =>
                rintro w ⟨hSb, hSw⟩
                go_simp
                try with_reducible rfl
              case r9 =>
              simp only [put_lit, List.set]
              refine wpAnyH_take (i := 10) (oi := { dst := some 50, op := _, type := _, pos := _, after := _, guard := _ }) (v := ?v10) rfl (by kernel_rfl) (by kernel_rfl) (by kernel_rfl) (fun c v w h => hQ c _ _ _ w h) (Or.inl ⟨by rfl, ?y10⟩) (by assumption) ?r10
              case y10 =>
                rintro w ⟨hSb, hSw⟩
                go_simp
                try with_reducible rfl
              case r10 =>
              simp only [put_lit, List.set]
              refine wpAnyH_take (i := 11) (oi := { dst := some 51, op := _, type := _, pos := _, after := _, guard := _ }) (v := ?v11) rfl (by kernel_rfl) (by kernel_rfl) (by kernel_rfl) (fun c v w h => hQ c _ _ _ w h) (Or.inl ⟨by rfl, ?y11⟩) (by assumption) ?r11
              case y11 =>
                rintro w ⟨hSb, hSw⟩
                go_simp
                try with_reducible rfl
              case r11 =>
              simp only [put_lit, List.set]
              refine wpAnyH_take (i := 12) (oi := { dst := some 52, op := _, type := _, pos := _, after := _, guard := _ }) (v := ?v12) rfl (by kernel_rfl) (by kernel_rfl) (by kernel_rfl) (fun c v w h => hQ c _ _ _ w h) (Or.inl ⟨by rfl, ?y12⟩) (by assumption) ?r12
              case y12 =>
                rintro w ⟨hSb, hSw⟩
                go_simp
                try with_reducible rfl
              case r12 =>
              simp only [put_lit, List.set]
              refine wpAnyH_take (i := 13) (oi := { dst := some 53, op := _, type := _, pos := _, after := _, guard := _ }) (v := ?v13) rfl (by kernel_rfl) (by kernel_rfl) (by kernel_rfl) (fun c v w h => hQ c _ _ _ w h) (Or.inl ⟨by rfl, ?y13⟩) (by assumption) ?r13
              case y13 =>
                rintro w ⟨hSb, hSw⟩
                go_simp
                try with_reducible rfl
              case r13 =>
              simp only [put_lit, List.set]
              refine wpAnyH_take (i := 14) (oi := { dst := some 54, op := _, type := _, pos := _, after := _, guard := _ }) (v := ?v14) rfl (by kernel_rfl) (by kernel_rfl) (by kernel_rfl) (fun c v w h => hQ c _ _ _ w h) (Or.inl ⟨by rfl, ?y14⟩) (by assumption) ?r14
              case y14 =>
                rintro w ⟨hSb, hSw⟩
                go_simp
                try with_reducible rfl
              case r14 =>
              simp only [put_lit, List.set]
              refine wpAnyH_take (i := 15) (oi := { dst := some 55, op := _, type := _, pos := _, after := _, guard := _ }) (v := ?v15) rfl (by kernel_rfl) (by kernel_rfl) (by kernel_rfl) (fun c v w h => hQ c _ _ _ w h) (Or.inl ⟨by rfl, ?y15⟩) (by assumption) ?r15
              case y15 =>
                rintro w ⟨hSb, hSw⟩
                go_simp
                try with_reducible rfl
              case r15 =>
              simp only [put_lit, List.set]
              refine wpAnyH_take (i := 16) (oi := { dst := some 56, op := _, type := _, pos := _, after := _, guard := _ }) (v := ?v16) rfl (by kernel_rfl) (by kernel_rfl) (by kernel_rfl) (fun c v w h => hQ c _ _ _ w h) (Or.inl ⟨by rfl, ?y16⟩) (by assumption) ?r16
              case y16 =>
                rintro w ⟨hSb, hSw⟩
                go_simp
                try with_reducible rfl
              case r16 =>
              simp only [put_lit, List.set]
              refine wpAnyH_take (i := 17) (oi := { dst := some 57, op := _, type := _, pos := _, after := _, guard := _ }) (v := ?v17) rfl (by kernel_rfl) (by kernel_rfl) (by kernel_rfl) (fun c v w h => hQ c _ _ _ w h) (Or.inl ⟨by rfl, ?y17⟩) (by assumption) ?r17
              case y17 =>
                rintro w ⟨hSb, hSw⟩
                go_simp
                try with_reducible rfl
              case r17 =>
              simp only [put_lit, List.set]
              refine wpAnyH_take (i := 18) (oi := { dst := some 58, op := _, type := _, pos := _, after := _, guard := _ }) (v := ?v18) rfl (by kernel_rfl) (by kernel_rfl) (by kernel_rfl) (fun c v w h => hQ c _ _ _ w h) (Or.inl ⟨by rfl, ?y18⟩) (by assumption) ?r18
              case y18 =>
                rintro w ⟨hSb, hSw⟩
                go_simp
                try with_reducible rfl
              case r18 =>
              simp only [put_lit, List.set]
              refine wpAnyH_take (i := 19) (oi := { dst := some 59, op := _, type := _, pos := _, after := _, guard := _ }) (v := ?v19) rfl (by kernel_rfl) (by kernel_rfl) (by kernel_rfl) (fun c v w h => hQ c _ _ _ w h) (Or.inl ⟨by rfl, ?y19⟩) (by assumption) ?r19
              case y19 =>
                rintro w ⟨hSb, hSw⟩
                go_simp
                try with_reducible rfl
              case r19 =>
              simp only [put_lit, List.set]
              refine wpAnyH_take (i := 20) (oi := { dst := some 60, op := _, type := _, pos := _, after := _, guard := _ }) (v := undef) rfl (by kernel_rfl) (by kernel_rfl) (by kernel_rfl) (fun c v w h => hQ c _ _ _ w h) (Or.inr ⟨by kernel_rfl, rfl⟩) (by assumption) ?_
              simp only [put_lit, List.set]
              refine wpAnyH_take (i := 21) (oi := { dst := some 61, op := _, type := _, pos := _, after := _, guard := _ }) (v := undef) rfl (by kernel_rfl) (by kernel_rfl) (by kernel_rfl) (fun c v w h => hQ c _ _ _ w h) (Or.inr ⟨by kernel_rfl, rfl⟩) (by assumption) ?_
              simp only [put_lit, List.set]
              refine wpAnyH_take (i := 22) (oi := { dst := some 62, op := _, type := _, pos := _, after := _, guard := _ }) (v := undef) rfl (by kernel_rfl) (by kernel_rfl) (by kernel_rfl) (fun c v w h => hQ c _ _ _ w h) (Or.inr ⟨by kernel_rfl, rfl⟩) (by assumption) ?_
              simp only [put_lit, List.set]
              refine wpAnyH_take (i := 23) (oi := { dst := some 63, op := _, type := _, pos := _, after := _, guard := _ }) (v := undef) rfl (by kernel_rfl) (by kernel_rfl) (by kernel_rfl) (fun c v w h => hQ c _ _ _ w h) (Or.inr ⟨by kernel_rfl, rfl⟩) (by assumption) ?_
              simp only [put_lit, List.set]
              refine wpAnyH_take (i := 24) (oi := { dst := some 64, op := _, type := _, pos := _, after := _, guard := _ }) (v := undef) rfl (by kernel_rfl) (by kernel_rfl) (by kernel_rfl) (fun c v w h => hQ c _ _ _ w h) (Or.inr ⟨by kernel_rfl, rfl⟩) (by assumption) ?_
              simp only [put_lit, List.set]
              refine wpAnyH_take (i := 25) (oi := { dst := some 65, op := _, type := _, pos := _, after := _, guard := _ }) (v := undef) rfl (by kernel_rfl) (by kernel_rfl) (by kernel_rfl) (fun c v w h => hQ c _ _ _ w h) (Or.inr ⟨by kernel_rfl, rfl⟩) (by assumption) ?_
              simp only [put_lit, List.set]
              refine wpAnyH_take (i := 26) (oi := { dst := some 66, op := _, type := _, pos := _, after := _, guard := _ }) (v := undef) rfl (by kernel_rfl) (by kernel_rfl) (by kernel_rfl) (fun c v w h => hQ c _ _ _ w h) (Or.inr ⟨by kernel_rfl, rfl⟩) (by assumption) ?_
              simp only [put_lit, List.set]
              refine wpAnyH_take (i := 27) (oi := { dst := some 67, op := _, type := _, pos := _, after := _, guard := _ }) (v := undef) rfl (by kernel_rfl) (by kernel_rfl) (by kernel_rfl) (fun c v w h => hQ c _ _ _ w h) (Or.inr ⟨by kernel_rfl, rfl⟩) (by assumption) ?_
              simp only [put_lit, List.set]
              refine wpAnyH_take (i := 28) (oi := { dst := some 68, op := _, type := _, pos := _, after := _, guard := _ }) (v := undef) rfl (by kernel_rfl) (by kernel_rfl) (by kernel_rfl) (fun c v w h => hQ c _ _ _ w h) (Or.inr ⟨by kernel_rfl, rfl⟩) (by assumption) ?_
              simp only [put_lit, List.set]
              refine wpAnyH_take (i := 29) (oi := { dst := some 69, op := _, type := _, pos := _, after := _, guard := _ }) (v := undef) rfl (by kernel_rfl) (by kernel_rfl) (by kernel_rfl) (fun c v w h => hQ c _ _ _ w h) (Or.inr ⟨by kernel_rfl, rfl⟩) (by assumption) ?_
              simp only [put_lit, List.set]
              refine wpAnyH_take (i := 30) (oi := { dst := some 70, op := _, type := _, pos := _, after := _, guard := _ }) (v := ?v30) rfl (by kernel_rfl) (by kernel_rfl) (by kernel_rfl) (fun c v w h => hQ c _ _ _ w h) (Or.inl ⟨by rfl, ?y30⟩) (by assumption) ?r30
              case y30 =>
                rintro w ⟨hSb, hSw⟩
                go_simp
                try with_reducible rfl
              case r30 =>
              simp only [put_lit, List.set]
              refine wpAnyH_take (i := 31) (oi := { dst := some 71, op := _, type := _, pos := _, after := _, guard := _ }) (v := ?v31) rfl (by kernel_rfl) (by kernel_rfl) (by kernel_rfl) (fun c v w h => hQ c _ _ _ w h) (Or.inl ⟨by rfl, ?y31⟩) (by assumption) ?r31
              case y31 =>
                rintro w ⟨hSb, hSw⟩
                go_simp
                try with_reducible rfl
              case r31 =>
              simp only [put_lit, List.set]
              refine wpAnyH_done (by kernel_rfl) ?_ _
              all_goals
                go_wp2
                go_roundw
                case rel => exact ⟨1, by omega, by go_num, hbr.trans (Below.mono (by assumption) hbr.size)⟩
                case measure => simp [intOf]; omega
            · obtain ⟨i, rfl⟩ : ∃ i, j = i + 1 := ⟨j - 1, by omega⟩
              have hnext := M.ways_next (p := (n1 : Int)) (c := (q : Int)) (k := i) (by rw [Hlen.out]; exact hlt2)
              obtain ⟨g', A2, n2, c2, eg, hc2, ho2⟩ := hGr.at_ (show i < nG by omega)
              obtain rfl : g = g' := by simpa using eg
              have hS : ∀ W, Below wr.heap.size wr W → Calls Try.prog 28 #[.slice A1 n1 c1, .slice A2 n2 c2] W fun e w' => e = .returned (.bool false) ∧ Below wr.heap.size wr w' := fun W hb => by
                have := sameInts_c A1 A2 n1 c1 n2 c2 _ _ W (ho1.below hb).rd (ho2.below hb).rd
                rw [hnext] at this
                exact this.mono fun _ _ h => ⟨h.1, hb.trans (h.2.below _)⟩
              have HS := Lib.hid hS
              have C2 := Lib.hid (fun W (hb : Below wr.heap.size wr W) => (hb.cell (p := ⟨g, i, none⟩) hglt).trans hc2)
              have ix1 : (i : Int) + 1 < (nG : Int) := by omega
              have ix2 : (i : Int) < (nG : Int) := by omega
              have ix3 : IntKind.i64.wrap ((i : Int) + 1 - 1) = (i : Int) := by rw [IntKind.wrap_i64]; omega
              have ix7 : IntKind.i64.wrap (i : Int) = (i : Int) := by rw [IntKind.wrap_i64]; omega
              have ix8 : (0 : Int) ≤ (i : Int) := by omega
              have ix9 : IntKind.i64.wrap (((i + 1 : Nat) : Int) - 1) = (i : Int) := by rw [IntKind.wrap_i64]; omega
              have ix4 : decide ((0 : Int) < (i : Int) + 1) = true := decide_eq_true (by omega)
              have ix5 : 0 ≤ (i : Int) + 1 := by omega
              have ix6 : ((i : Int) + 1).toNat = i + 1 := by omega
              clear hc1 hc2 hS hnext eg hj0
              go_wp2_with fail
              go_region_held3 (fun W => Below wr.heap.size wr W ∧ W.cell? ⟨g, i + 1, none⟩ = some (.slice A1 n1 c1) ∧ W.cell? ⟨g, i, none⟩ = some (.slice A2 n2 c2)) (first | exact ⟨bD, C1.out _ bD, C2.out _ bD⟩ | exact ⟨by assumption, C1.out _ (by assumption), C2.out _ (by assumption)⟩) (first | (go_at_call 19; with_reducible refine (HH.out _ (by assumption)).mono ?_; clear HH; rintro e w' ⟨rfl, hbb⟩) | (go_at_call 28; with_reducible refine (HS.out _ (by assumption)).mono ?_; clear HS; rintro e w' ⟨rfl, hbb⟩))
              all_goals
                clear ix3 ix5 ix6 ix7 ix8 ix9
                go_wp2
                go_roundw
                case rel => exact ⟨i + 2, by omega, by go_num, hbr.trans (Below.mono (by assumption) hbr.size)⟩
                case measure => simp [intOf]; omega
          · obtain rfl : j = nG := by omega
            have bb := bt b4 hbr
            rcases Hmany.out with h0 | h0
            · subst h0
              go_wp2_with fail
              refine (alive_c _).mono ?_
              rintro e w' ⟨rfl, rfl⟩
              go_wp2
              go_ret
              exact ⟨rfl, bb⟩
            · subst h0
              by_cases hz : j = 0
              · subst hz
                go_wp2_with fail
                refine (alive_c _).mono ?_
                rintro e w' ⟨rfl, rfl⟩
                go_wp2
                go_ret
                exact ⟨rfl, bb⟩
              · have hz' : ((j : Int) == 0) = false := by simp; omega
                have hz2 : ((j : Int) == (j : Int)) = true := by simp
                go_wp2_with fail
                refine (alive_c _).mono ?_
                rintro e w' ⟨rfl, rfl⟩
                go_wp2
                go_ret
                exact ⟨rfl, bb⟩

end Go.Proofs.Ytacnngbjcchamaa
