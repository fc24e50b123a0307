/- The walk of the law on QuestionsFor. -/
import Derived.Test.YtdpbjepjiloeaaaSure3
import Derived.Test.YtdpbjepjiloeaaaKnD
namespace Go.Proofs.Ytdpbjepjiloeaaa
open Go Go.RowKit
open M (nth)

theorem DrawQuestionsFor_c (A : Option Addr) (n c : Nat) (w : World) (h : RdY w A n c) : Calls Try.prog 31 #[.slice A n c] w fun e w' => (∃ (A' : Option Addr) (m c' : Nat) (xs : List Int), e = .returned (.slice A' m c') ∧ m ≤ 3 ∧ OwnI w' w.heap.size A' m c' xs) ∧ Below w.heap.size w w' := by
  go_enter Try.func31, Try.ntmps31
  go_wp2_with fail
  refine (l20Open_c A n c _ h).mono ?_
  rintro e w1 ⟨rfl, hr, hb⟩
  go_wp2_with fail
  refine (l20Known_c w.heap.size 0 12 _ hr (by omega) (by omega) (by omega)).mono ?_
  rintro e w2 ⟨⟨A', m, c', xs, p', rfl, hm, ho, hr2, hp2⟩, hg⟩
  go_wp2
  go_ret
  exact ⟨⟨_, _, _, xs, rfl, hm, ho.mono hb.size⟩, below_row hb hg⟩

theorem M.lq_of {a : Int} {k : Nat} (hk : k ≤ 20) (h1 : a ≤ 2 ^ k) (h2 : ∀ j, j < k → ¬ a ≤ 2 ^ j) : M.lq a = k := by
  have hs : ∀ j, j ≤ k → M.lqGo a (20 - j) j = M.lqGo a 20 0 := fun j => by
    induction j with
    | zero => intro _; rfl
    | succ j ih =>
      intro hj
      rw [M.lqGo_step a j (by omega) (by have := h2 j (by omega); omega)]
      exact ih (by omega)
  unfold M.lq
  rw [← hs k (Nat.le_refl _), M.lqGo_stop a (20 - k) k (by omega)]

set_option maxHeartbeats 2000000 in
theorem FnQuestionsFor_w (w : World) (A : Option Addr) (n c : Nat) (h : RdY w A n c) :
    Calls Try.prog 9 #[.slice A n c] w fun e w' => e = .returned (.bool true) ∧ Below w.heap.size w w' := by
  have hbig := h.big
  by_cases hn : 1048576 < n
  · go_enter Try.func9, Try.ntmps9
    go_wp2
    go_ret
    exact ⟨rfl, Below.refl _ _⟩
  · go_enter Try.func9, Try.ntmps9
    go_wp2_with fail
    refine (DrawQuestionsFor_c A n c _ h).mono ?_
    rintro e w1 ⟨⟨A', m, c', xs, rfl, hm, ho⟩, hbel⟩
    go_wp2_with fail
    refine (iQuestionsFor_c A' m c' _ xs _ ho).mono ?_
    rintro e w2 ⟨rfl, hb2⟩
    have b2 := bt hbel hb2
    have ho2 := ho.below hb2
    go_wp2_with fail
    refine (sQuestionsFor_c A' m c' xs _ ho2.rd (by omega)).mono ?_
    rintro e w3 ⟨rfl, hb3⟩
    have b3 := bt b2 hb3
    have ho3 := ho2.below hb3
    cases hok : M.knownB xs with
    | false =>
      rw [M.quest_no hok]
      go_wp2_with fail
      refine (alive_c _).mono ?_
      rintro e w' ⟨rfl, rfl⟩
      go_wp2
      go_ret
      exact ⟨rfl, b3⟩
    | true =>
      rw [M.quest_ok hok]
      rcases M.quest_law (xs := xs) 10 0 with he | ⟨k, he, -, hk, hw1, hw2⟩
      · rw [he]
        go_wp2_with fail
        refine (alive_c _).mono ?_
        rintro e w' ⟨rfl, rfl⟩
        go_wp2
        go_ret
        exact ⟨rfl, b3⟩
      · rw [he]
        clear he
        obtain ⟨hfit, hs0, hs10⟩ := M.known_sum2 hok
        by_cases hs : M.sumL xs ≤ 1
        · have hk0 : k = 0 := by
            rcases Nat.eq_zero_or_pos k with e | e
            · exact e
            · have := hw2 0 (Nat.le_refl _) e
              rw [M.win_few hs] at this
              cases this
          subst hk0
          clear hw1 hw2
          go_wp2_with fail
          refine (sumOf_c A' m c' xs _ ho3.rd hfit).mono ?_
          rintro e w' ⟨rfl, rfl⟩
          go_wp2
          go_ret
          exact ⟨rfl, b3⟩
        · have hk1 : 1 ≤ k := by
            rcases Nat.eq_zero_or_pos k with e | e
            · subst e; rw [M.win_zero hs] at hw1; cases hw1
            · exact e
          have HB := Lib.hid (show M.boundF xs ≤ (k : Int) by rw [M.bound_ok hok]; exact M.bound_le 10 0 k (Nat.zero_le _) (by omega) (M.win_wgt k xs (by omega) hok hw1))
          have S1 := M.sure_ok (q := k) hok (by omega)
          rw [hw1] at S1
          obtain ⟨j, hj⟩ : ∃ j, k = j + 1 := ⟨k - 1, by omega⟩
          have t1 : IntKind.i64.wrap ((k : Int) - 1) = (j : Int) := by rw [IntKind.wrap_i64]; omega
          have S2 := M.sure_ok (q := j) hok (by omega)
          rw [hw2 j (Nat.zero_le _) (by omega)] at S2
          have HL := Lib.hid (show m = 1 → ∃ a, xs = [a] ∧ 2 ≤ a ∧ a ≤ 10 ∧ M.lq a = k from fun e => by
            have hl : xs.length = 1 := by rw [ho3.1, e]
            match xs, hl with
            | [a], _ =>
              simp [M.sumL] at hs hs10
              refine ⟨a, rfl, by omega, hs10, M.lq_of (by omega) ?_ fun j hj => ?_⟩
              · rw [M.win_one k a (by omega) hok, decide_eq_true_eq] at hw1; exact hw1
              · have := hw2 j (Nat.zero_le _) hj
                rw [M.win_one j a (by omega) hok, decide_eq_false_iff_not] at this; exact this)
          have hm1 : 1 ≤ m := by have := (M.known_parts hok).1; have := ho3.1; omega
          clear hw1 hw2 hj
          go_wp2_with fail
          refine (sumOf_c A' m c' xs _ ho3.rd hfit).mono ?_
          rintro e w' ⟨rfl, rfl⟩
          go_wp2_with fail
          refine (iBoundFor_c A' m c' xs _ ho3.rd).mono ?_
          rintro e w4 ⟨rfl, hb4⟩
          have b4 := bt b3 hb4
          have ho4 := ho3.below hb4
          have HB' := HB.out
          generalize M.boundF xs = V at *
          have dV : decide (V ≤ (k : Int)) = true := decide_eq_true HB'
          go_wp2_with fail
          refine (iSureIn_c A' m c' _ xs _ _ ho4).mono ?_
          rintro e w5 ⟨rfl, hb5⟩
          rw [S1]
          have b5 := bt b4 hb5
          have ho5 := ho4.below hb5
          go_wp2_with fail
          refine (iSureIn_c A' m c' _ xs _ _ ho5).mono ?_
          rintro e w6 ⟨rfl, hb6⟩
          rw [S2]
          have b6 := bt b5 hb6
          have ho6 := ho5.below hb6
          by_cases hm2 : 1 < m
          · go_wp2
            go_ret
            exact ⟨rfl, b6⟩
          · obtain rfl : m = 1 := by omega
            obtain ⟨a, rfl, ha2, ha10, hlq⟩ := HL.out rfl
            obtain ⟨g6, rfl, -, -⟩ := ho6.at0 (by omega)
            have hcell : w6.cell? ⟨g6, 0, none⟩ = some (.int .i64 a) := ho6.cell (k := 0) (by omega)
            go_wp2_with fail
            refine (LeastQuestions_c a _ (by omega) (by omega)).mono ?_
            rintro e w' ⟨rfl, rfl⟩
            rw [hlq]
            go_wp2
            go_ret
            exact ⟨rfl, b6⟩

end Go.Proofs.Ytdpbjepjiloeaaa
