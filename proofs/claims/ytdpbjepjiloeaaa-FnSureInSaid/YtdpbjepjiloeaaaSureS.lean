/- Contracts of the reference's SureIn and QuestionsFor. No condition but a row of at most 2 to the 20 numbers. -/
import Derived.Test.YtdpbjepjiloeaaaWinW
namespace Go.Proofs.Ytdpbjepjiloeaaa
open Go Go.RowKit
open M (nth)

theorem M.inv_keep {L q m : Nat} {F F' : List Int} (h : M.Inv L F m) (h' : M.Inv L F' q) (hK : M.Keep L F F' q) : M.Inv L F' m := fun q' row h1 h2 h3 => by
  by_cases e : q' ≤ q
  · exact h' q' row e h2 h3
  · rw [hK q' row (by omega) h2 h3]; exact h q' row h1 h2 h3

set_option maxHeartbeats 400000 in
theorem l5Found_c (w : World) : Calls Try.prog 50 #[] w fun e w' => e = .returned (.slice (some ⟨w.heap.size, 0, none⟩) 13310 13310) ∧ OwnI w' w.heap.size (some ⟨w.heap.size, 0, none⟩) 13310 13310 (List.replicate 13310 0) ∧ Below w.heap.size w w' := by
  have hmk : ∀ W, (Instr.makeSlice 23 (.int .i64 13310) (.int .i64 13310)).run Try.prog W = .ok (.slice (some ⟨W.heap.size, 0, none⟩) 13310 13310) (W.alloc (.cells (zer 13310) 3)) := fun W => mk_run 13310 (by omega) W
  go_enter Try.func50, Try.ntmps50
  go_wp2_with fail
  go_ret
  exact ⟨rfl, ownI_zer w w.heap.size 13310 (Nat.le_refl _) (by omega), (Below.refl _ _).alloc (Nat.le_refl _) _⟩

set_option maxHeartbeats 1000000 in
theorem sSureIn_c (A : Option Addr) (n c : Nat) (xs : List Int) (q : Int) (w : World) (h : RdI w A n xs) (hn : n ≤ 1048577) :
    Calls Try.prog 24 #[.slice A n c, .int .i64 q] w fun e w' => e = .returned (.bool (M.sureB xs q)) ∧ Below w.heap.size w w' := by
  go_enter Try.func24, Try.ntmps24
  go_wp2_with fail
  refine (sKnownOk_c A n c xs _ h hn).mono ?_
  rintro e w1 ⟨rfl, hq1⟩
  have b1 := hq1.below w.heap.size
  cases hok : M.knownB xs with
  | false =>
    have Hf := Lib.hid (M.sure_no1 (q := q) hok)
    go_wp2
    go_ret
    exact ⟨rb Hf.out.symm, b1⟩
  | true =>
    go_wp2_with fail
    refine (l1In_c _ _ _ _).mono ?_
    rintro e w' ⟨rfl, rfl⟩
    cases hin : M.inB q 0 9 with
    | false =>
      have Hf := Lib.hid (M.sure_no2 (xs := xs) hin)
      go_wp2
      go_ret
      exact ⟨rb Hf.out.symm, b1⟩
    | true =>
      have hq := M.inB_true.1 hin
      obtain ⟨k, rfl⟩ := Int.eq_ofNat_of_zero_le hq.1
      have Hf := Lib.hid (M.sure_ok (q := k) hok (by omega))
      go_wp2_with fail
      refine (l5Found_c _).mono ?_
      rintro e w2 ⟨rfl, ho2, hb2⟩
      have b2 := b1.trans (hb2.mono b1.size)
      have hr2 := h.below b2
      have hs1 := b1.size
      obtain ⟨k1, k3, -, -⟩ := M.known_parts hok
      have hl := h.len
      go_wp2_with fail
      refine (l5Win_c w1.heap.size w1.heap.size 13310 n k (by omega) _ A n c xs _ ho2 hr2 (fun ad e => by
        obtain ⟨ad', e', hlt, _⟩ := h.cells (by omega)
        rw [e] at e'
        cases e'
        omega) hok hl (M.inv_zero _ _ _)).mono ?_
      rintro e w3 ⟨rfl, -, hg3⟩
      have b3 : Below w.heap.size w w3 := b2.grown hg3 b2.size (fun j hj => by cases hj; exact hs1)
      go_wp2
      go_ret
      exact ⟨rb Hf.out.symm, b3⟩

set_option maxHeartbeats 1000000 in
theorem sQuestionsFor_c (A : Option Addr) (n c : Nat) (xs : List Int) (w : World) (h : RdI w A n xs) (hn : n ≤ 1048577) :
    Calls Try.prog 29 #[.slice A n c] w fun e w' => e = .returned (.int .i64 (M.questF xs)) ∧ Below w.heap.size w w' := by
  have hl := h.len
  go_enter Try.func29, Try.ntmps29
  go_wp2_with fail
  refine (l5Found_c _).mono ?_
  rintro e w2 ⟨rfl, ho2, b2⟩
  go_wp2_with fail
  cases hok : M.knownB xs with
  | false =>
    have Hg := Lib.hid (M.quest_no hok)
    go_loopg [4] 0 (fun g i wr => i = .int .i64 0 ∧ wr = w2)
    case atStart => exact ⟨rfl, rfl⟩
    case round =>
      obtain ⟨rfl, rfl⟩ := hrel
      go_wp2_with fail
      refine (sKnownOk_c A n c xs _ (h.below b2) hn).mono ?_
      rintro e w3 ⟨rfl, hq3⟩
      rw [hok]
      go_wp2
      go_ret
      exact ⟨by rw [Hg.out]; rfl, Below.quiet b2 hq3⟩
  | true =>
    have Hg := Lib.hid (M.quest_ok hok)
    obtain ⟨k1, k3, -, -⟩ := M.known_parts hok
    have hr2 := h.below b2
    have hne : ∀ ad, A = some ad → ad.block ≠ w.heap.size := fun ad e => by
      obtain ⟨ad', e', hlt, _⟩ := h.cells (by omega)
      rw [e] at e'
      cases e'
      omega
    have hF2 : ∃ F, OwnI w2 w.heap.size (some ⟨w.heap.size, 0, none⟩) 13310 13310 F ∧ M.Inv n F 9 := ⟨_, ho2, M.inv_zero _ _ _⟩
    have b2' := b2
    clear ho2
    go_loopg [4] 10 (fun g i wr => ∃ k : Nat, k + g = 10 ∧ i = .int .i64 k ∧ M.questGo xs 10 0 = M.questGo xs g k ∧ (∃ F, OwnI wr w.heap.size (some ⟨w.heap.size, 0, none⟩) 13310 13310 F ∧ M.Inv n F 9) ∧ Below w.heap.size w wr)
    case atStart => exact ⟨0, by omega, rfl, rfl, hF2, b2⟩
    case round =>
      obtain ⟨k, hk, rfl, hB, ⟨F, hF, hI⟩, hbr⟩ := hrel
      clear hF2
      have HB := Lib.hid hB
      clear hB
      by_cases hlt : k < 10
      · obtain ⟨g, rfl⟩ : ∃ g, gk = g + 1 := ⟨gk - 1, by omega⟩
        have d0 : decide ((k : Int) ≤ 9) = true := by simp; omega
        have d0' : decide (k ≤ 9) = true := by simp; omega
        have Hy := Lib.hid (M.quest_yes (xs := xs) (g := g) (n := k))
        have Hno := Lib.hid (M.quest_not (xs := xs) (g := g) (n := k))
        go_wp2_with fail
        refine (sKnownOk_c A n c xs _ (h.below hbr) hn).mono ?_
        rintro e w3 ⟨rfl, hq3⟩
        rw [hok]
        have b3 := Below.quiet hbr hq3
        go_wp2_with fail
        refine (l5Win_c w.heap.size w.heap.size 13310 n k (by omega) F A n c xs _ (hF.quiet hq3) (h.below b3) hne hok hl (M.inv_less hI (by omega))).mono ?_
        rintro e w4 ⟨rfl, ⟨F', hF', hI', hK'⟩, hg4⟩
        have b4 : Below w.heap.size w w4 := b3.grown hg4 b3.size (fun j hj => by cases hj; exact Nat.le_refl _)
        have hI9 := M.inv_keep hI hI' hK'
        cases hv : M.win k xs with
        | true =>
          have Hs := Lib.hid (Hy.out hv)
          go_wp2
          go_ret
          exact ⟨by rw [Hg.out, HB.out, Hs.out]; rfl, b4⟩
        | false =>
          have Hs := Lib.hid (Hno.out hv)
          go_wp2
          go_roundg g
          case measure => omega
          case rel => exact ⟨k + 1, by omega, by go_num, HB.out.trans Hs.out, ⟨F', hF', hI9⟩, b4⟩
      · obtain rfl : k = 10 := by omega
        obtain rfl : gk = 0 := by omega
        go_wp2
        go_ret
        exact ⟨by rw [Hg.out, HB.out]; rfl, hbr⟩

end Go.Proofs.Ytdpbjepjiloeaaa
