/- The walk of the law on sets that a text holds for. -/
import Derived.Test.YtbhpponandmgnaaKText3
namespace Go.Proofs.Ytbhpponandmgnaa
open Go Go.RowKit
open M (nth)

theorem M.so_bad {m : Nat} {l : M.Txt} {K d : Int} (hd : d = 2 ^ m) (h : M.textB (m : Int) l = false ∨ K < 0 ∨ d ≤ K) : M.soB (m : Int) l K = false := by
  rcases h with h | h | h
  · exact M.text_no h K
  · exact M.set_no (by rw [← Bool.not_eq_true]; intro e; have := M.inB_true.1 e; omega)
  · exact M.set_no (by rw [← Bool.not_eq_true]; intro e; have := M.inB_true.1 e; rw [Int.toNat_natCast] at this; omega)
theorem M.so_good {m : Nat} {l : M.Txt} {K d : Int} (hd : d = 2 ^ m) (hl : l.length < 40) (h : M.textB (m : Int) l = true) (h0 : ¬ K < 0) (h1 : ¬ d ≤ K) :
    M.soB (m : Int) (33 :: l) K = !M.soB (m : Int) l K ∧ M.soB (m : Int) (40 :: (l ++ (61 :: 33 :: (l ++ [41])))) K = false :=
  ⟨M.so_not _ l K hl h (M.inB_true.2 (by rw [Int.toNat_natCast]; omega)), M.so_same _ l K h⟩

set_option maxHeartbeats 1000000 in
theorem FnSoFor_w (w : World) (A : Option Addr) (n c : Nat) (h : RdY w A n c) :
    Calls Try.prog 6 #[.slice A n c] w fun e w' => e = .returned (.bool true) ∧ Below w.heap.size w w' := by
  have hbig := h.big
  by_cases hn : 1048576 < n
  · go_enter Try.func6, Try.ntmps6
    go_wp2
    go_ret
    exact ⟨rfl, Below.refl _ _⟩
  · go_enter Try.func6, Try.ntmps6
    go_wp2_with fail
    refine (DrawSoFor_c A n c _ h).mono ?_
    rintro e w1 ⟨⟨m, s, K, rfl, hm1, hm5, hs⟩, hb1⟩
    obtain ⟨d, u1, hd⟩ : ∃ d : Int, IntKind.i64.wrap ((2 : Int) ^ m) = d ∧ d = 2 ^ m := by
      have : m = 1 ∨ m = 2 ∨ m = 3 ∨ m = 4 ∨ m = 5 := by omega
      rcases this with rfl | rfl | rfl | rfl | rfl <;> exact ⟨_, rfl, rfl⟩
    have u1' : wrap64 ((2 : Int) ^ m) = d := by rw [← u1, IntKind.wrap_i64, wrap64]
    have u2 : min m 64 = m := by omega
    have hz1 : (ByteArray.mk #[33]).size = 1 := rfl
    have hz2 : (ByteArray.mk #[40]).size = 1 := rfl
    have hz3 : (ByteArray.mk #[41]).size = 1 := rfl
    have hz4 : (ByteArray.mk #[61, 33]).size = 2 := rfl
    have hN : ∀ W, Calls Try.prog 13 #[.int .i64 (m : Int), .string ((ByteArray.mk #[33]) ++ s), .int .i64 K] W fun e w' => e = .returned (.bool (M.soB m (33 :: s.data.toList) K)) ∧ Below W.heap.size W w' := fun W => by
      have := iSoFor_c (m : Int) ((ByteArray.mk #[33]) ++ s) K W
      rwa [bang_list] at this
    have hQ : ∀ W, Calls Try.prog 13 #[.int .i64 (m : Int), .string ((((ByteArray.mk #[40]) ++ s) ++ (ByteArray.mk #[61, 33])) ++ s ++ (ByteArray.mk #[41])), .int .i64 K] W fun e w' => e = .returned (.bool (M.soB m (40 :: (s.data.toList ++ (61 :: 33 :: (s.data.toList ++ [41])))) K)) ∧ Below W.heap.size W w' := fun W => by
      have := iSoFor_c (m : Int) ((((ByteArray.mk #[40]) ++ s) ++ (ByteArray.mk #[61, 33])) ++ s ++ (ByteArray.mk #[41])) K W
      rwa [same_list] at this
    have HN := Lib.hid hN
    have HQ := Lib.hid hQ
    clear hN hQ
    have HS := Lib.hid (fun W => sSoFor_c (m : Int) s K W)
    have HI := Lib.hid (fun W => iSoFor_c (m : Int) s K W)
    have HT := Lib.hid (fun W => sTextOk_c (m : Int) s W)
    have hbad := Lib.hid (fun h => M.so_bad (m := m) (l := s.data.toList) (K := K) hd h)
    have hgood := Lib.hid (fun h h0 h1 => M.so_good (m := m) (l := s.data.toList) (K := K) hd (by rw [list_size]; omega) h h0 h1)
    have e3 : decide ((40 : Int) ≤ (s.size : Int)) = false := decide_eq_false (by omega)
    have e1 : ∀ b : Bool, (b != b) = false := by decide
    have e2 : ∀ b : Bool, (!b != b) = true := by decide
    have e1 := e1 (M.soB m s.data.toList K)
    have e2 := e2 (M.soB m s.data.toList K)
    clear hd
    generalize M.soB m (33 :: s.data.toList) K = sN at *
    generalize M.soB m (40 :: (s.data.toList ++ (61 :: 33 :: (s.data.toList ++ [41])))) K = sQ at *
    generalize M.soB m s.data.toList K = so at *
    generalize M.textB m s.data.toList = t at *
    go_wp2_with fail
    refine (HI.out _).mono ?_
    rintro e w2 ⟨rfl, hb2⟩
    have b2 := bt hb1 hb2
    go_wp2_with fail
    refine (HS.out _).mono ?_
    rintro e w3 ⟨rfl, rfl⟩
    go_wp2_with fail
    refine (HT.out _).mono ?_
    rintro e w4 ⟨rfl, rfl⟩
    cases t with
    | false =>
      have hf : so = false := hbad.out (.inl rfl)
      subst hf
      go_wp2_with fail
      refine (alive_c _).mono ?_
      rintro e w' ⟨rfl, rfl⟩
      go_wp2
      go_ret
      exact ⟨rfl, b2⟩
    | true =>
      by_cases hk0 : K < 0
      · have hf : so = false := hbad.out (.inr (.inl hk0))
        subst hf
        have d1 : decide (K < 0) = true := decide_eq_true hk0
        go_wp2_with fail
        refine (alive_c _).mono ?_
        rintro e w' ⟨rfl, rfl⟩
        go_wp2
        go_ret
        exact ⟨rfl, b2⟩
      · have d1 : decide (K < 0) = false := decide_eq_false hk0
        by_cases hk1 : d ≤ K
        · have hf : so = false := hbad.out (.inr (.inr hk1))
          subst hf
          have d2 : decide (d ≤ K) = true := decide_eq_true hk1
          go_wp2_with fail
          refine (alive_c _).mono ?_
          rintro e w' ⟨rfl, rfl⟩
          go_wp2
          go_ret
          exact ⟨rfl, b2⟩
        · have d2 : decide (d ≤ K) = false := decide_eq_false hk1
          obtain ⟨rfl, rfl⟩ := hgood.out rfl (by omega) (by omega)
          go_wp2_with fail
          refine (HN.out _).mono ?_
          rintro e w5 ⟨rfl, hb5⟩
          have b5 := bt b2 hb5
          go_wp2_with fail
          refine (HQ.out _).mono ?_
          rintro e w6 ⟨rfl, hb6⟩
          have b6 := bt b5 hb6
          go_wp2
          go_ret
          exact ⟨rfl, b6⟩

end Go.Proofs.Ytbhpponandmgnaa
