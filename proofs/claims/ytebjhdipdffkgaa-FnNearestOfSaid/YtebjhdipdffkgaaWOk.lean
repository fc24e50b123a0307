/- Contracts of WordsOk, LeastFar, NearestOf and SurePast, of the program and of the reference. -/
import Derived.Test.YtebjhdipdffkgaaWM3
import Derived.Test.YtebjhdipdffkgaaLib
import Derived.Test.YtebjhdipdffkgaaSort
namespace Go.Proofs.Ytebjhdipdffkgaa
open Go Go.RowKit
open M (nth)

theorem M.word_bounds {q : Nat} (h : q ≤ 8) : (1 : Int) ≤ 2 ^ q ∧ (2 : Int) ^ q ≤ 256 := by
  have h1 := M.two_pow_pos q
  have h2 := M.pow_256 h
  omega

set_option maxHeartbeats 1000000 in
theorem iWordsOk_c (A : Option Addr) (n c : Nat) (xs : List Int) (b : Int) (w : World) (h : RdI w A n xs) (hn : n ≤ 1048576) :
    Calls Try.prog 38 #[.int .i64 b, .slice A n c] w fun e w' => e = .returned (.bool (M.wokB b xs)) ∧ Below w.heap.size w w' := by
  have hlen := h.len
  cases h1 : M.inB b 1 8 with
  | false =>
    have Hf := Lib.hid (M.wok_no1 (xs := xs) h1)
    go_enter Try.func38, Try.ntmps38
    go_wp2_with fail
    refine (in_c _ _ _ _).mono ?_
    rintro e w' ⟨rfl, rfl⟩
    go_wp2
    go_ret
    exact ⟨rb Hf.out.symm, Below.refl _ _⟩
  | true =>
    cases h2 : M.inB (n : Int) 1 16 with
    | false =>
      have Hf := Lib.hid (M.wok_no2 (b := b) (xs := xs) (by rw [hlen]; exact h2))
      go_enter Try.func38, Try.ntmps38
      go_wp2_with fail
      refine (in_c _ _ _ _).mono ?_
      rintro e w' ⟨rfl, rfl⟩
      go_wp2_with fail
      refine (in_c _ _ _ _).mono ?_
      rintro e w' ⟨rfl, rfl⟩
      go_wp2
      go_ret
      exact ⟨rb Hf.out.symm, Below.refl _ _⟩
    | true =>
      have h1' := M.inB_true.1 h1
      obtain ⟨q, rfl⟩ := Int.eq_ofNat_of_zero_le (show 0 ≤ b by omega)
      have hw : wrap64 ((2 : Int) ^ q) = 2 ^ q := M.wrap_pow q (by omega)
      obtain ⟨hq1, hq2⟩ := M.word_bounds (q := q) (by omega)
      have Hlo := Lib.hid (M.wok_ok (xs := xs) h1 (by rw [hlen]; exact h2))
      have Hks := Lib.hid (M.klen_sorted xs)
      cases ha : M.allB xs 0 (2 ^ q - 1) with
      | false =>
        have Ha := Lib.hid ha
        clear ha
        go_enter Try.func38, Try.ntmps38
        go_wp2_with fail
        refine (in_c _ _ _ _).mono ?_
        rintro e w' ⟨rfl, rfl⟩
        go_wp2_with fail
        refine (in_c _ _ _ _).mono ?_
        rintro e w' ⟨rfl, rfl⟩
        go_wp2_with fail
        refine (allIn_c A n c xs _ _ _ h).mono ?_
        rintro e w1 ⟨rfl, hb1⟩
        rw [Ha.out]
        go_wp2
        go_ret
        exact ⟨rb (by rw [Hlo.out, Ha.out]; rfl), hb1⟩
      | true =>
        have Ha := Lib.hid ha
        clear ha
        go_enter Try.func38, Try.ntmps38
        go_wp2_with fail
        refine (in_c _ _ _ _).mono ?_
        rintro e w' ⟨rfl, rfl⟩
        go_wp2_with fail
        refine (in_c _ _ _ _).mono ?_
        rintro e w' ⟨rfl, rfl⟩
        go_wp2_with fail
        refine (allIn_c A n c xs _ _ _ h).mono ?_
        rintro e w1 ⟨rfl, hb1⟩
        rw [Ha.out]
        go_wp2_with fail
        refine (Values_c A n c _).mono ?_
        rintro e w2 ⟨rfl, rfl⟩
        have hb2 : Below w1.heap.size w1 (w1.alloc (.cells #[.slice A n c] 28)) := (Below.refl _ _).alloc (Nat.le_refl _) _
        go_wp2_with fail
        refine (Sorted_c w1 A n c xs (h.below hb1) hn w1.heap.size _ (by simp) hb2 (Boxed.new w1 28 (.slice A n c)).cell).mono ?_
        rintro e w3 ⟨A3, c3, rfl, ho3, hb3⟩
        go_wp2_with fail
        refine (Compact_c _ A3 n c3 _ _ ho3).mono ?_
        rintro e w4 ⟨rfl, hb4⟩
        have hb34 : Below w1.heap.size w1 w4 := hb2.trans ((hb3.trans hb4).mono (by simp))
        generalize M.klen (xs.mergeSort fun x y => decide (x ≤ y)) = v at *
        by_cases hv : v = n
        · subst hv
          go_wp2
          go_ret
          exact ⟨rb (by rw [Hlo.out, Ha.out, Bool.true_and, decide_eq_true (Hks.out.1 hlen.symm)]), bt hb1 hb34⟩
        · have hv' : ((v : Int) == (n : Int)) = false := by simp; omega
          have Hv := Lib.hid hv
          clear hv
          go_wp2
          go_ret
          exact ⟨rb (by rw [Hlo.out, Ha.out, Bool.true_and, decide_eq_false (fun e => Hv.out ((Hks.out.2 e).trans hlen))]), bt hb1 hb34⟩

theorem M.wok_dup {b : Int} {xs : List Int} {i j : Nat} (hij : i < j) (hj : j < xs.length) (h : nth xs i = nth xs j) : M.wokB b xs = false := by
  cases e : M.wokB b xs with
  | false => rfl
  | true =>
    obtain ⟨q, _, _, _, _, _, _, h6⟩ := M.wok_parts e
    exact absurd h (M.nodup_nth.1 h6 i j hij hj)

set_option maxHeartbeats 1000000 in
theorem sWordsOk_c (A : Option Addr) (n c : Nat) (xs : List Int) (b : Int) (w : World) (h : RdI w A n xs) :
    Calls Try.prog 36 #[.int .i64 b, .slice A n c] w fun e w' => e = .returned (.bool (M.wokB b xs)) ∧ Quiet w w' := by
  have hlen := h.len
  have hbig := h.big
  cases h1 : M.inB b 1 8 with
  | false =>
    have Hf := Lib.hid (M.wok_no1 (xs := xs) h1)
    go_enter Try.func36, Try.ntmps36
    go_wp2_with fail
    refine (l1In_c _ _ _ _).mono ?_
    rintro e w' ⟨rfl, rfl⟩
    go_wp2
    go_ret
    exact ⟨rb Hf.out.symm, Quiet.refl _⟩
  | true =>
    cases h2 : M.inB (n : Int) 1 16 with
    | false =>
      have Hf := Lib.hid (M.wok_no2 (b := b) (xs := xs) (by rw [hlen]; exact h2))
      go_enter Try.func36, Try.ntmps36
      go_wp2_with fail
      refine (l1In_c _ _ _ _).mono ?_
      rintro e w' ⟨rfl, rfl⟩
      go_wp2_with fail
      refine (l1In_c _ _ _ _).mono ?_
      rintro e w' ⟨rfl, rfl⟩
      go_wp2
      go_ret
      exact ⟨rb Hf.out.symm, Quiet.refl _⟩
    | true =>
      have h1' := M.inB_true.1 h1
      have h2' := M.inB_true.1 h2
      obtain ⟨q, rfl⟩ := Int.eq_ofNat_of_zero_le (show 0 ≤ b by omega)
      have hw : wrap64 ((2 : Int) ^ q) = 2 ^ q := M.wrap_pow q (by omega)
      obtain ⟨hq1, hq2⟩ := M.word_bounds (q := q) (by omega)
      have Hlo := Lib.hid (M.wok_ok (xs := xs) h1 (by rw [hlen]; exact h2))
      go_enter Try.func36, Try.ntmps36
      go_wp2_with fail
      refine (l1In_c _ _ _ _).mono ?_
      rintro e w' ⟨rfl, rfl⟩
      go_wp2_with fail
      refine (l1In_c _ _ _ _).mono ?_
      rintro e w' ⟨rfl, rfl⟩
      go_wp2_with fail
      go_loopg [5] n (fun g i wr => ∃ k : Nat, k + g = n ∧ i = .int .i64 k ∧ Hid (∀ j, j < k → M.inB (nth xs j) 0 (2 ^ q - 1) = true ∧ ∀ i, i < j → nth xs i ≠ nth xs j) ∧ Quiet w wr)
      case atStart => exact ⟨0, by omega, rfl, Lib.hid (fun j hj => absurd hj (Nat.not_lt_zero _)), Quiet.refl _⟩
      case round =>
        obtain ⟨k, hk, rfl, Hall, hq⟩ := hrel
        by_cases hlt : k < n
        · obtain ⟨g, rfl⟩ : ∃ g, gk = g + 1 := ⟨gk - 1, by omega⟩
          obtain ⟨ad, rfl, _, hcell⟩ := (h.quiet hq).at_ hlt
          have w1 : IntKind.i64.wrap ((2 : Int) ^ q) = 2 ^ q := by rw [IntKind.wrap_i64]; omega
          have w2 : IntKind.i64.wrap ((2 : Int) ^ q - 1) = 2 ^ q - 1 := by rw [IntKind.wrap_i64]; omega
          cases hi : M.inB (nth xs k) 0 (2 ^ q - 1) with
          | false =>
            have Hf : Hid (M.wokB (q : Int) xs = false) := Lib.hid (by rw [Hlo.out, M.allB_false (k := k) (by omega) (M.inB_false.1 hi)]; rfl)
            go_wp2_with fail
            go_quiet ((go_at_call 44; exact quiet_l (l1In_c _ _ _ _)))
            clear w1 w2
            go_wp2
            go_ret
            exact ⟨rb Hf.out.symm, hq.drewN _⟩
          | true =>
            have Hi := Lib.hid hi
            go_wp2_with fail
            go_quiet ((go_at_call 44; exact quiet_l (l1In_c _ _ _ _)))
            clear w1 w2 hi
            go_wp2_with fail
            go_loopg [6] k (fun g2 i wy => ∃ j : Nat, j + g2 = k ∧ i = .int .i64 j ∧ Hid (∀ i, i < j → nth xs i ≠ nth xs k) ∧ Quiet w wy)
            case atStart => exact ⟨0, by omega, rfl, Lib.hid (fun i hi => absurd hi (Nat.not_lt_zero _)), hq.drewN _⟩
            case round =>
              obtain ⟨j, hj, rfl, Hin, hqy⟩ := hrel
              by_cases hjk : j < k
              · obtain ⟨g2, rfl⟩ : ∃ g2, gk = g2 + 1 := ⟨gk - 1, by omega⟩
                obtain ⟨ad1, e1, _, hc1⟩ := (h.quiet hqy).at_ (show j < n by omega)
                obtain ⟨ad2, e2, _, hc2⟩ := (h.quiet hqy).at_ hlt
                obtain rfl := Option.some.inj e1
                obtain rfl := Option.some.inj e2
                clear e1 e2
                by_cases he : nth xs j = nth xs k
                · have Hf := Lib.hid (M.wok_dup (b := (q : Int)) hjk (by omega) he)
                  have he1 : (nth xs j == nth xs k) = true := by simpa using he
                  clear he
                  go_wp2_with fail
                  try go_quiet (fail)
                  go_wp2
                  go_ret
                  exact ⟨rb Hf.out.symm, by first | exact hqy | exact hqy.drewN _⟩
                · have he1 : (nth xs j == nth xs k) = false := by simpa using he
                  have He := Lib.hid he
                  clear he
                  go_wp2_with fail
                  try go_quiet (fail)
                  go_wp2
                  go_roundg g2
                  case measure => omega
                  case rel => exact ⟨j + 1, by omega, by go_num, Lib.hid (fun i hi => by
                    by_cases e : i = j
                    · subst e; exact He.out
                    · exact Hin.out i (by omega)), by first | exact hqy | exact hqy.drewN _⟩
              · obtain rfl : j = k := by omega
                go_wp2
                go_roundg g
                case measure => omega
                case rel => exact ⟨j + 1, by omega, by go_num, Lib.hid (fun i hi => by
                  by_cases e : i = j
                  · subst e; exact ⟨Hi.out, Hin.out⟩
                  · exact Hall.out i (by omega)), hqy⟩
        · obtain rfl : k = n := by omega
          have hf : M.wokB (q : Int) xs = true := by
            rw [Hlo.out, Bool.and_eq_true, decide_eq_true_eq]
            exact ⟨M.allB_iff.2 (fun j hj => M.inB_true.1 (Hall.out j (by omega)).1), M.nodup_nth.2 (fun i j hij hj => (Hall.out j (by omega)).2 i hij)⟩
          have Hf := Lib.hid hf
          clear hf
          go_wp2
          go_ret
          exact ⟨rb Hf.out.symm, hq⟩

end Go.Proofs.Ytebjhdipdffkgaa
