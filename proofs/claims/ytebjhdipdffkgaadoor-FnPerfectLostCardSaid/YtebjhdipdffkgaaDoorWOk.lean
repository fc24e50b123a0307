/- Contracts of WordsOk, LeastFar, NearestOf and SurePast, of the program and of the reference. -/
import Derived.Test.YtebjhdipdffkgaaDoorWM3
import Derived.Test.YtebjhdipdffkgaaDoorLib
import Derived.Test.YtebjhdipdffkgaaDoorSort
namespace Go.Proofs.YtebjhdipdffkgaaDoor
open Go Go.RowKit
open M (nth)

theorem M.word_bounds {q : Nat} (h : q ≤ 8) : (1 : Int) ≤ 2 ^ q ∧ (2 : Int) ^ q ≤ 256 := by
  have h1 := M.two_pow_pos q
  have h2 := M.pow_256 h
  omega

set_option maxHeartbeats 1000000 in
theorem iWordsOk_c (A : Option Addr) (n c : Nat) (xs : List Int) (b : Int) (w : World) (h : RdI w A n xs) (hn : n ≤ 1048576) :
    Calls Tryd.prog 32 #[.int .i64 b, .slice A n c] w fun e w' => e = .returned (.bool (M.wokB b xs)) ∧ Below w.heap.size w w' := by
  have hlen := h.len
  cases h1 : M.inB b 1 8 with
  | false =>
    have Hf := Lib.hid (M.wok_no1 (xs := xs) h1)
    go_enter Tryd.func32, Tryd.ntmps32
    go_wp2_with fail
    refine (in_c _ _ _ _).mono ?_
    rintro e w' ⟨rfl, rfl⟩
    go_wp2
    go_ret
    exact ⟨rb Hf.out.symm, Below.refl _ _⟩
  | true =>
    cases h2 : M.inB (n : Int) 1 16 with
    | false =>
      have Hf := Lib.hid (M.wok_no2 (b := b) (xs := xs) (by rw [hlen]; exact h2))
      go_enter Tryd.func32, Tryd.ntmps32
      go_wp2_with fail
      refine (in_c _ _ _ _).mono ?_
      rintro e w' ⟨rfl, rfl⟩
      go_wp2_with fail
      refine (in_c _ _ _ _).mono ?_
      rintro e w' ⟨rfl, rfl⟩
      go_wp2
      go_ret
      exact ⟨rb Hf.out.symm, Below.refl _ _⟩
    | true =>
      have h1' := M.inB_true.1 h1
      obtain ⟨q, rfl⟩ := Int.eq_ofNat_of_zero_le (show 0 ≤ b by omega)
      have hw : wrap64 ((2 : Int) ^ q) = 2 ^ q := M.wrap_pow q (by omega)
      obtain ⟨hq1, hq2⟩ := M.word_bounds (q := q) (by omega)
      have Hlo := Lib.hid (M.wok_ok (xs := xs) h1 (by rw [hlen]; exact h2))
      have Hks := Lib.hid (M.klen_sorted xs)
      cases ha : M.allB xs 0 (2 ^ q - 1) with
      | false =>
        have Ha := Lib.hid ha
        clear ha
        go_enter Tryd.func32, Tryd.ntmps32
        go_wp2_with fail
        refine (in_c _ _ _ _).mono ?_
        rintro e w' ⟨rfl, rfl⟩
        go_wp2_with fail
        refine (in_c _ _ _ _).mono ?_
        rintro e w' ⟨rfl, rfl⟩
        go_wp2_with fail
        refine (allIn_c A n c xs _ _ _ h).mono ?_
        rintro e w1 ⟨rfl, hb1⟩
        rw [Ha.out]
        go_wp2
        go_ret
        exact ⟨rb (by rw [Hlo.out, Ha.out]; rfl), hb1⟩
      | true =>
        have Ha := Lib.hid ha
        clear ha
        go_enter Tryd.func32, Tryd.ntmps32
        go_wp2_with fail
        refine (in_c _ _ _ _).mono ?_
        rintro e w' ⟨rfl, rfl⟩
        go_wp2_with fail
        refine (in_c _ _ _ _).mono ?_
        rintro e w' ⟨rfl, rfl⟩
        go_wp2_with fail
        refine (allIn_c A n c xs _ _ _ h).mono ?_
        rintro e w1 ⟨rfl, hb1⟩
        rw [Ha.out]
        go_wp2_with fail
        refine (Values_c A n c _).mono ?_
        rintro e w2 ⟨rfl, rfl⟩
        have hb2 : Below w1.heap.size w1 (w1.alloc (.cells #[.slice A n c] 22)) := (Below.refl _ _).alloc (Nat.le_refl _) _
        go_wp2_with fail
        refine (Sorted_c w1 A n c xs (h.below hb1) hn w1.heap.size _ (by simp) hb2 (Boxed.new w1 22 (.slice A n c)).cell).mono ?_
        rintro e w3 ⟨A3, c3, rfl, ho3, hb3⟩
        go_wp2_with fail
        refine (Compact_c _ A3 n c3 _ _ ho3).mono ?_
        rintro e w4 ⟨rfl, hb4⟩
        have hb34 : Below w1.heap.size w1 w4 := hb2.trans ((hb3.trans hb4).mono (by simp))
        generalize M.klen (xs.mergeSort fun x y => decide (x ≤ y)) = v at *
        by_cases hv : v = n
        · subst hv
          go_wp2
          go_ret
          exact ⟨rb (by rw [Hlo.out, Ha.out, Bool.true_and, decide_eq_true (Hks.out.1 hlen.symm)]), bt hb1 hb34⟩
        · have hv' : ((v : Int) == (n : Int)) = false := by simp; omega
          have Hv := Lib.hid hv
          clear hv
          go_wp2
          go_ret
          exact ⟨rb (by rw [Hlo.out, Ha.out, Bool.true_and, decide_eq_false (fun e => Hv.out ((Hks.out.2 e).trans hlen))]), bt hb1 hb34⟩

theorem M.wok_dup {b : Int} {xs : List Int} {i j : Nat} (hij : i < j) (hj : j < xs.length) (h : nth xs i = nth xs j) : M.wokB b xs = false := by
  cases e : M.wokB b xs with
  | false => rfl
  | true =>
    obtain ⟨q, _, _, _, _, _, _, h6⟩ := M.wok_parts e
    exact absurd h (M.nodup_nth.1 h6 i j hij hj)


end Go.Proofs.YtebjhdipdffkgaaDoor
