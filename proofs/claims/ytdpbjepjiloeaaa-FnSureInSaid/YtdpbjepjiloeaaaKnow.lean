/- Contracts on what is known: KnownOk, SplitOk, the answers. -/
import Derived.Test.YtdpbjepjiloeaaaKMath
import Derived.Test.YtdpbjepjiloeaaaLib
namespace Go.Proofs.Ytdpbjepjiloeaaa
open Go Go.RowKit
open M (nth)

theorem own_cap {w : World} {b : Nat} {A : Option Addr} {n c : Nat} {xs : List Int} (h : OwnI w b A n c xs) : n ≤ c := by
  rcases h.form with ⟨_, rfl, rfl, _⟩ | ⟨g, rfl, _, _⟩
  · exact Nat.le_refl _
  · exact h.cap.1

set_option maxHeartbeats 1000000 in
theorem iKnownOk_c (A : Option Addr) (n c : Nat) (xs : List Int) (w : World) (h : RdI w A n xs) :
    Calls Try.prog 23 #[.slice A n c] w fun e w' => e = .returned (.bool (M.knownB xs)) ∧ Below w.heap.size w w' := by
  have hlen := h.len
  cases h1 : M.inB (n : Int) 1 3 with
  | false =>
    have Hf := Lib.hid (M.known_no1 (xs := xs) (by rw [hlen]; exact h1))
    go_enter Try.func23, Try.ntmps23
    go_wp2_with fail
    refine (in_c _ _ _ _).mono ?_
    rintro e w' ⟨rfl, rfl⟩
    go_wp2
    go_ret
    exact ⟨rb Hf.out.symm, Below.refl _ _⟩
  | true =>
    cases h2 : M.allB xs 0 10 with
    | false =>
      have Hf := Lib.hid (M.known_no2 h2)
      go_enter Try.func23, Try.ntmps23
      go_wp2_with fail
      refine (in_c _ _ _ _).mono ?_
      rintro e w' ⟨rfl, rfl⟩
      go_wp2_with fail
      refine (allIn_c A n c xs _ _ _ h).mono ?_
      rintro e w1 ⟨rfl, hb1⟩
      go_wp2
      go_ret
      exact ⟨rb Hf.out.symm, hb1⟩
    | true =>
      have Hf := Lib.hid (M.known_ok (by rw [hlen]; exact h1) h2)
      have h1' := M.inB_true.1 h1
      have hfit := M.sumFits_of h2 (by omega) (by omega) (by omega)
      go_enter Try.func23, Try.ntmps23
      go_wp2_with fail
      refine (in_c _ _ _ _).mono ?_
      rintro e w' ⟨rfl, rfl⟩
      go_wp2_with fail
      refine (allIn_c A n c xs _ _ _ h).mono ?_
      rintro e w1 ⟨rfl, hb1⟩
      go_wp2_with fail
      refine (total_c A n c xs _ (h.below hb1) hfit).mono ?_
      rintro e w' ⟨rfl, rfl⟩
      go_wp2
      go_ret
      exact ⟨by rw [Hf.out]; rfl, hb1⟩

theorem M.psum_bnd {xs : List Int} {k : Nat} (hk : k ≤ xs.length) (hall : ∀ j, j < k → 0 ≤ nth xs j ∧ nth xs j ≤ 10) : 0 ≤ M.psum xs k ∧ M.psum xs k ≤ 10 * k := by
  induction k with
  | zero => simp [M.psum_zero]
  | succ k ih =>
    have := ih (by omega) fun j hj => hall j (by omega)
    have := hall k (by omega)
    rw [M.psum_succ xs k (by omega)]
    omega

set_option maxHeartbeats 1000000 in
theorem sKnownOk_c (A : Option Addr) (n c : Nat) (xs : List Int) (w : World) (h : RdI w A n xs) (hn : n ≤ 1048577) :
    Calls Try.prog 37 #[.slice A n c] w fun e w' => e = .returned (.bool (M.knownB xs)) ∧ Quiet w w' := by
  have hlen := h.len
  have hbig := h.big
  go_enter Try.func37, Try.ntmps37
  go_wp2_with fail
  go_loopg [3, 4] n (fun g s i wr => ∃ k : Nat, k + g = n ∧ i = .int .i64 k ∧ s = .int .i64 (M.psum xs k) ∧ Hid (∀ j, j < k → 0 ≤ nth xs j ∧ nth xs j ≤ 10) ∧ Quiet w wr)
  case atStart => exact ⟨0, by omega, rfl, rfl, Lib.hid (fun j hj => absurd hj (Nat.not_lt_zero _)), Quiet.refl _⟩
  case round =>
    obtain ⟨k, hk, rfl, rfl, Hall, hq⟩ := hrel
    by_cases hlt : k < n
    · obtain ⟨g, rfl⟩ : ∃ g, gk = g + 1 := ⟨gk - 1, by omega⟩
      obtain ⟨ad, rfl, _, hcell⟩ := (h.quiet hq).at_ hlt
      have hps := M.psum_bnd (xs := xs) (k := k) (by omega) Hall.out
      have Hs := Lib.hid (M.psum_succ xs k (by omega))
      go_wp2_with fail
      refine (l1In_c _ _ _ _).mono ?_
      rintro e w1 ⟨rfl, rfl⟩
      cases hi : M.inB (nth xs k) 0 10 with
      | false =>
        have Hf := Lib.hid (M.known_no2 (M.allB_false (k := k) (by omega) (M.inB_false.1 hi)))
        go_wp2
        go_ret
        exact ⟨rb Hf.out.symm, hq⟩
      | true =>
        have hi' := M.inB_true.1 hi
        have Hi := Lib.hid hi'
        clear hi
        go_wp2_with fail
        try go_quiet (fail)
        go_wp2
        go_roundg g
        case measure => omega
        case rel => exact ⟨k + 1, by omega, by go_num, by rw [Hs.out], Lib.hid (fun j hj => by
          by_cases e : j = k
          · subst e; exact Hi.out
          · exact Hall.out j (by omega)), by first | exact hq | exact hq.drewN _⟩
    · obtain rfl : k = n := by omega
      have hall2 : M.allB xs 0 10 = true := M.allB_iff.2 fun j hj => Hall.out j (by omega)
      have hsum := M.psum_all xs k (by omega)
      rw [hsum]
      go_wp2_with fail
      refine (l1In_c _ _ _ _).mono ?_
      rintro e w1 ⟨rfl, rfl⟩
      cases h1 : M.inB (k : Int) 1 3 with
      | false =>
        have Hf := Lib.hid (M.known_no1 (xs := xs) (by rw [hlen]; exact h1))
        go_wp2
        go_ret
        exact ⟨rb Hf.out.symm, hq⟩
      | true =>
        have Hf := Lib.hid (M.known_ok (by rw [hlen]; exact h1) hall2)
        go_wp2
        go_ret
        exact ⟨by rw [Hf.out]; rfl, hq⟩

set_option maxHeartbeats 1000000 in
theorem iSplitOk_c (A B : Option Addr) (n c m d : Nat) (xs ys : List Int) (w : World) (h : RdI w A n xs) (h' : RdI w B m ys) :
    Calls Try.prog 42 #[.slice A n c, .slice B m d] w fun e w' => e = .returned (.bool (M.splitB xs ys)) ∧ Below w.heap.size w w' := by
  have hlen := h.len
  have hlen' := h'.len
  go_enter Try.func42, Try.ntmps42
  go_wp2_with fail
  refine (iKnownOk_c A n c xs _ h).mono ?_
  rintro e w1 ⟨rfl, hb1⟩
  have h1 := h.below hb1
  have h1' := h'.below hb1
  cases hok : M.knownB xs with
  | false =>
    have Hf := Lib.hid (M.split_no1 (q := ys) hok)
    go_wp2
    go_ret
    exact ⟨rb Hf.out.symm, hb1⟩
  | true =>
    by_cases hm : m = n
    · subst hm
      obtain ⟨k1, k3, -, -⟩ := M.known_parts hok
      have Hok := Lib.hid hok
      clear hok
      go_wp2_with fail
      go_loopg [19] m (fun g i wr => ∃ k : Nat, k + g = m ∧ i = .int .i64 k ∧ Hid (∀ j, j < k → M.inB (nth ys j) 0 (nth xs j) = true) ∧ wr = w1)
      case atStart => exact ⟨0, by omega, rfl, Lib.hid (fun j hj => absurd hj (Nat.not_lt_zero _)), rfl⟩
      case round =>
        obtain ⟨k, hk, rfl, Hall, rfl⟩ := hrel
        by_cases hlt : k < m
        · obtain ⟨g, rfl⟩ : ∃ g, gk = g + 1 := ⟨gk - 1, by omega⟩
          obtain ⟨ad, rfl, _, hcell⟩ := h1.at_ hlt
          obtain ⟨ad', rfl, _, hcell'⟩ := h1'.at_ hlt
          go_wp2_with fail
          refine (in_c _ _ _ _).mono ?_
          rintro e w2 ⟨rfl, rfl⟩
          cases hi : M.inB (nth ys k) 0 (nth xs k) with
          | false =>
            have Hf := Lib.hid (M.split_no3 (row := xs) (q := ys) (k := k) (by omega) hi)
            go_wp2
            go_ret
            exact ⟨rb Hf.out.symm, hb1⟩
          | true =>
            have Hi := Lib.hid hi
            clear hi
            go_wp2
            go_roundg g
            case measure => omega
            case rel => exact ⟨k + 1, by omega, by go_num, Lib.hid (fun j hj => by
              by_cases e : j = k
              · subst e; exact Hi.out
              · exact Hall.out j (by omega)), by first | rfl | trivial⟩
        · obtain rfl : k = m := by omega
          have Hf := Lib.hid (M.split_of Hok.out (by omega) (fun j hj => Hall.out j (by omega)) : M.splitB xs ys = true)
          go_wp2
          go_ret
          exact ⟨rb Hf.out.symm, hb1⟩
    · have Hf := Lib.hid (M.split_no2 (row := xs) (q := ys) (by omega))
      have hm' : ((m : Int) != (n : Int)) = true := by simp; omega
      have hm2 : ((m : Int) == (n : Int)) = false := by simp; omega
      go_wp2
      go_ret
      exact ⟨rb Hf.out.symm, hb1⟩

set_option maxHeartbeats 1000000 in
theorem sSplitOk_c (A B : Option Addr) (n c m d : Nat) (xs ys : List Int) (w : World) (h : RdI w A n xs) (h' : RdI w B m ys) (hn : n ≤ 1048577) :
    Calls Try.prog 45 #[.slice A n c, .slice B m d] w fun e w' => e = .returned (.bool (M.splitB xs ys)) ∧ Quiet w w' := by
  have hlen := h.len
  have hlen' := h'.len
  have hbig := h.big
  have hbig' := h'.big
  by_cases hm : m = n
  · subst hm
    go_enter Try.func45, Try.ntmps45
    go_wp2_with fail
    go_loopg [5] m (fun g i wr => ∃ k : Nat, k + g = m ∧ i = .int .i64 k ∧ Hid (∀ j, j < k → M.inB (nth ys j) 0 (nth xs j) = true) ∧ Quiet w wr)
    case atStart => exact ⟨0, by omega, rfl, Lib.hid (fun j hj => absurd hj (Nat.not_lt_zero _)), Quiet.refl _⟩
    case round =>
      obtain ⟨k, hk, rfl, Hall, hq⟩ := hrel
      by_cases hlt : k < m
      · obtain ⟨g, rfl⟩ : ∃ g, gk = g + 1 := ⟨gk - 1, by omega⟩
        obtain ⟨ad, rfl, _, hcell⟩ := (h.quiet hq).at_ hlt
        obtain ⟨ad', rfl, _, hcell'⟩ := (h'.quiet hq).at_ hlt
        cases hi : M.inB (nth ys k) 0 (nth xs k) with
        | false =>
          have Hf := Lib.hid (M.split_no3 (row := xs) (q := ys) (k := k) (by omega) hi)
          go_wp2_with fail
          try go_quiet ((go_at_call 48; exact quiet_l (l1In_c _ _ _ _)))
          try (refine (l1In_c _ _ _ _).mono ?_; rintro e w2 ⟨rfl, rfl⟩)
          go_wp2
          go_ret
          exact ⟨rb Hf.out.symm, by first | exact hq | exact hq.drewN _⟩
        | true =>
          have Hi := Lib.hid hi
          go_wp2_with fail
          try go_quiet ((go_at_call 48; exact quiet_l (l1In_c _ _ _ _)))
          try (refine (l1In_c _ _ _ _).mono ?_; rintro e w2 ⟨rfl, rfl⟩)
          go_wp2
          go_roundg g
          case measure => omega
          case rel => exact ⟨k + 1, by omega, by go_num, Lib.hid (fun j hj => by
            by_cases e : j = k
            · subst e; exact Hi.out
            · exact Hall.out j (by omega)), by first | exact hq | exact hq.drewN _⟩
      · obtain rfl : k = m := by omega
        go_wp2_with fail
        refine (sKnownOk_c A k c xs _ (h.quiet hq) hn).mono ?_
        rintro e w1 ⟨rfl, hq1⟩
        cases hok : M.knownB xs with
        | false =>
          have Hf := Lib.hid (M.split_no1 (q := ys) hok)
          go_wp2
          go_ret
          exact ⟨rb Hf.out.symm, hq.trans hq1⟩
        | true =>
          have Hf := Lib.hid (M.split_of hok (by omega) (fun j hj => Hall.out j (by omega)) : M.splitB xs ys = true)
          go_wp2
          go_ret
          exact ⟨rb Hf.out.symm, hq.trans hq1⟩
  · have Hf := Lib.hid (M.split_no2 (row := xs) (q := ys) (by omega))
    have hm' : ((m : Int) != (n : Int)) = true := by simp; omega
    have hm2 : ((m : Int) == (n : Int)) = false := by simp; omega
    go_enter Try.func45, Try.ntmps45
    go_wp2_with fail
    go_loopg [5] 0 (fun g i wr => i = .int .i64 0 ∧ wr = w)
    case atStart => exact ⟨rfl, rfl⟩
    case round =>
      obtain ⟨rfl, rfl⟩ := hrel
      by_cases hm0 : 0 < m
      · go_wp2_with fail
        refine (sKnownOk_c A n c xs _ h hn).mono ?_
        rintro e w1 ⟨rfl, hq1⟩
        cases hok : M.knownB xs with
        | false =>
          go_wp2
          go_ret
          exact ⟨rb Hf.out.symm, hq1⟩
        | true =>
          go_wp2
          go_ret
          exact ⟨rb Hf.out.symm, hq1⟩
      · go_wp2_with fail
        refine (sKnownOk_c A n c xs _ h hn).mono ?_
        rintro e w1 ⟨rfl, hq1⟩
        cases hok : M.knownB xs with
        | false =>
          go_wp2
          go_ret
          exact ⟨rb Hf.out.symm, hq1⟩
        | true =>
          go_wp2
          go_ret
          exact ⟨rb Hf.out.symm, hq1⟩

end Go.Proofs.Ytdpbjepjiloeaaa
