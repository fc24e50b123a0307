/- Contracts of the reference's guesses and wins. -/
import Derived.Test.YtebjhdipdffkgaaDoorGuess
namespace Go.Proofs.YtebjhdipdffkgaaDoor
open Go Go.RowKit
open M (nth)

namespace M
open Go in
theorem tmod_bit (x k : Nat) : Int.tmod ((x : Int) / 2 ^ k) 2 = bitAt x k := by
  have e : ((x : Int) / 2 ^ k) = ((x / 2 ^ k : Nat) : Int) := by simp
  rw [e, Int.tmod_eq_emod_of_nonneg (Int.natCast_nonneg _)]
  unfold bitAt
  omega
theorem zero_eq (x k : Nat) (hx : x < 128) (hk : k < 7) : (x : Int) - bitAt x k * 2 ^ k = (zeroAt x k : Nat) := by
  have h := (bits_all x hx k hk).2.2.2
  unfold bitAt
  rw [nat_pow, ← Int.natCast_mul]
  omega
theorem pow_le_of_bit {x k : Nat} (h : x / 2 ^ k % 2 = 1) : 2 ^ k ≤ x := by
  rcases Nat.lt_or_ge x (2 ^ k) with hl | hl
  · rw [Nat.div_eq_of_lt hl] at h; omega
  · exact hl
theorem one_eq (x k : Nat) : ((zeroAt x k : Nat) : Int) + 2 ^ k = (oneAt x k : Nat) := by
  unfold oneAt
  rw [nat_pow]
  omega
end M




theorem l8Turned_c (x k : Nat) (w : World) (hx : x < 128) (hk : k < 7) :
    Calls Tryd.prog 55 #[.int .i64 x, .int .i64 k] w fun e w' => e = .returned (.int .i64 (M.flipAt x k : Nat)) ∧ w' = w := by
  have hwk : wrap64 ((2 : Int) ^ k) = 2 ^ k := M.wrap_pow k (by omega)
  have e1 := M.tmod_bit x k
  have h6 := M.two_pow_le (show k ≤ 6 by omega)
  have h0 := M.two_pow_pos k
  have h00 := M.pow_le_of_bit (x := x) (k := k)
  rcases Nat.mod_two_eq_zero_or_one (x / 2 ^ k) with hm | hm
  · have Hf := Lib.hid (show (M.flipAt x k : Int) = x + 2 ^ k by unfold M.flipAt; rw [hm, M.nat_pow]; rfl)
    have eb : (M.bitAt x k == 1) = false := by unfold M.bitAt; rw [hm]; rfl
    have hw : wrap64 ((x : Int) + 2 ^ k) = x + 2 ^ k := M.wrap_small (by omega) (by omega)
    go_enter Tryd.func55, Tryd.ntmps55
    go_wp2
    go_ret
    exact ⟨by rw [Hf.out, ← hw]; rfl, rfl⟩
  · have Hf := Lib.hid (show (M.flipAt x k : Int) = x - 2 ^ k by
      have := h00 hm
      unfold M.flipAt; rw [hm, M.nat_pow, if_pos rfl]; omega)
    have eb : (M.bitAt x k == 1) = true := by unfold M.bitAt; rw [hm]; rfl
    have hp := h00 hm
    have hw : wrap64 ((x : Int) - 2 ^ k) = x - 2 ^ k := M.wrap_small (by rw [M.nat_pow]; omega) (by omega)
    go_enter Tryd.func55, Tryd.ntmps55
    go_wp2
    go_ret
    exact ⟨by rw [Hf.out, ← hw]; rfl, rfl⟩

set_option maxHeartbeats 1000000 in
theorem sCoverOk_c (A : Option Addr) (n c : Nat) (xs : List Int) (p : Int) (w : World) (h : RdI w A n xs) :
    Calls Tryd.prog 44 #[.int .i64 p, .slice A n c] w fun e w' => e = .returned (.bool (M.coverW p xs)) ∧ Quiet w w' := by
  go_enter Tryd.func44, Tryd.ntmps44
  go_wp2_with fail
  refine (sLostOk_c A n c xs p _ h).mono ?_
  rintro e w1 ⟨rfl, hq1⟩
  cases hp : M.lostB p xs with
  | false =>
    have Hg := Lib.hid (show M.coverW p xs = false by simp [M.coverW, hp])
    go_wp2
    go_ret
    exact ⟨by rw [Hg.out]; rfl, hq1⟩
  | true =>
    obtain ⟨q, rfl, hq1', hq7⟩ := M.lost_p hp
    have hw2 : wrap64 ((2 : Int) ^ q) = 2 ^ q := M.wrap_pow q (by omega)
    have h128 := M.pow7 hq7
    have Hg := Lib.hid (M.cover_ok hp)
    go_wp2_with fail
    obtain ⟨M0, hM0⟩ : ∃ M0 : Nat, M0 = 2 ^ q := ⟨_, rfl⟩
    have eM : ((2 : Int) ^ q) = (M0 : Int) := by rw [hM0]; simp
    rw [← hM0] at h128
    replace hw2 := hw2.trans eM
    have HM0 := Lib.hid hM0
    clear hM0 eM
    go_loopw [5] (fun i wr => ∃ m : Nat, m ≤ M0 ∧ i = .int .i64 m ∧ (Hid (∀ x, x < m → M.reachN xs x q = true)) ∧ Quiet w wr) (fun i _ => M0 - (intOf i).toNat)
    case atStart => exact ⟨0, Nat.zero_le _, rfl, Lib.hid fun x hx => absurd hx (by omega), hq1⟩
    case round =>
      obtain ⟨m, hm, rfl, Hall, hqr⟩ := hrel
      by_cases hlt : m < M0
      · go_wp2_with fail
        refine (l8Has_c A n c xs _ _ (h.quiet hqr)).mono ?_
        rintro e w2 ⟨rfl, rfl⟩
        go_wp2_with fail
        go_loopw [6, 7] (fun r i ws => ∃ k : Nat, k ≤ q ∧ i = .int .i64 k ∧ r = .bool (M.reachN xs m k) ∧ Quiet w ws) (fun _ i _ => q - (intOf i).toNat)
        case atStart => exact ⟨0, Nat.zero_le _, rfl, by rw [M.reach_zero], hqr⟩
        case round =>
          obtain ⟨k, hk, rfl, rfl, hqs⟩ := hrel
          have Hr := Lib.hid (M.reach_succ xs m k)
          by_cases hkq : k < q
          · cases hr : M.reachN xs m k <;> rw [hr] at Hr
            · go_wp2_with fail
              refine (l8Turned_c m k _ (by omega) (by omega)).mono ?_
              rintro e w2 ⟨rfl, rfl⟩
              go_wp2_with fail
              refine (l8Has_c A n c xs _ _ (h.quiet hqs)).mono ?_
              rintro e w2 ⟨rfl, rfl⟩
              go_wp2
              exact ⟨⟨k + 1, by omega, rfl, by rw [Hr.out, Bool.false_or], hqs⟩, by simp only [intOf]; omega⟩
            · go_wp2
              exact ⟨⟨k + 1, by omega, rfl, by rw [Hr.out, Bool.true_or], hqs⟩, by simp only [intOf]; omega⟩
          · obtain rfl : k = q := by omega
            cases hr : M.reachN xs m k
            · have Hno := Lib.hid (M.cover_no (HM0.out ▸ hlt) hr)
              go_wp2
              go_ret
              exact ⟨by rw [Hg.out, Hno.out]; rfl, hqs⟩
            · go_wp2
              exact ⟨⟨m + 1, by omega, rfl, Lib.hid fun x hx => by
                by_cases e : x = m
                · subst e; exact hr
                · exact Hall.out x (by omega), hqs⟩, by simp only [intOf]; omega⟩
      · have Hc := Lib.hid (M.cover_yes (xs := xs) (q := q) fun x hx => Hall.out x (by have := HM0.out; omega))
        go_wp2
        go_ret
        exact ⟨by rw [Hg.out, Hc.out]; rfl, hqr⟩

end Go.Proofs.YtebjhdipdffkgaaDoor
