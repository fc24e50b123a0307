/- Contracts of guesses and wins. -/
import Derived.Test.YtebjhdipdffkgaaDoorTeam
import Derived.Test.YtebjhdipdffkgaaDoorLost
namespace Go.Proofs.YtebjhdipdffkgaaDoor
open Go Go.RowKit
open M (nth)

namespace M
def guessW (p : Int) (xs : List Int) (x k : Int) : Int :=
  if lostB p xs && inB x 0 (2 ^ p.toNat - 1) && inB k 0 (p - 1) then guessN xs x.toNat k.toNat else -2
theorem guess_ok {p x k : Nat} {xs : List Int} (h : lostB (p : Int) xs = true) (hx : x < 2 ^ p) (hk : k < p) : guessW (p : Int) xs (x : Int) (k : Int) = guessN xs x k := by
  have e : ((2 : Int) ^ p) = ((2 ^ p : Nat) : Int) := by simp
  have h1 : inB (x : Int) 0 (2 ^ p - 1) = true := inB_true.2 (by rw [e]; omega)
  have h2 : inB (k : Int) 0 ((p : Int) - 1) = true := inB_true.2 (by omega)
  simp [guessW, h, h1, h2]
def winsW (p : Int) (xs : List Int) (x : Int) : Bool := lostB p xs && inB x 0 (2 ^ p.toNat - 1) && winsN xs x.toNat p.toNat
theorem wins_ok {p x : Nat} {xs : List Int} (h : lostB (p : Int) xs = true) (hx : x < 2 ^ p) : winsW (p : Int) xs (x : Int) = winsN xs x p := by
  have e : ((2 : Int) ^ p) = ((2 ^ p : Nat) : Int) := by simp
  have h1 : inB (x : Int) 0 (2 ^ p - 1) = true := inB_true.2 (by rw [e]; omega)
  simp [winsW, h, h1]
def coverW (p : Int) (xs : List Int) : Bool := lostB p xs && coverN xs p.toNat
theorem cover_ok {p : Nat} {xs : List Int} (h : lostB (p : Int) xs = true) : coverW (p : Int) xs = coverN xs p := by simp [coverW, h]
/-- How many of the first m words are won. -/
def wonN (xs : List Int) (q : Nat) : Nat → Nat
  | 0 => 0
  | m + 1 => wonN xs q m + (if winsN xs m q = true then 1 else 0)
def winsOf (p : Int) (xs : List Int) : Int := if lostB p xs = true then (wonN xs p.toNat (2 ^ p.toNat) : Int) else -1
theorem winsOf_ok {p : Nat} {xs : List Int} (h : lostB (p : Int) xs = true) : winsOf (p : Int) xs = (wonN xs p (2 ^ p) : Int) := by simp [winsOf, h]
theorem wonN_le (xs : List Int) (q : Nat) : ∀ m, wonN xs q m ≤ m
  | 0 => Nat.le_refl _
  | m + 1 => by
    have := wonN_le xs q m
    simp only [wonN]
    split <;> omega
theorem lost_p {p : Int} {xs : List Int} (h : lostB p xs = true) : ∃ q : Nat, p = (q : Int) ∧ 1 ≤ q ∧ q ≤ 7 := by
  unfold lostB at h
  rw [Bool.and_eq_true] at h
  have := inB_true.1 h.1
  exact ⟨p.toNat, by omega, by omega, by omega⟩
theorem inB_word {q : Nat} {x : Int} (h : inB x 0 (2 ^ q - 1) = true) : ∃ n : Nat, x = (n : Int) ∧ n < 2 ^ q := by
  have := inB_true.1 h
  have e : ((2 : Int) ^ q) = ((2 ^ q : Nat) : Int) := by simp
  rw [e] at this
  exact ⟨x.toNat, by omega, by omega⟩
theorem inB_nat {q : Int} {x : Int} (h : inB x 0 (q - 1) = true) : ∃ n : Nat, x = (n : Int) ∧ (n : Int) < q := by
  have := inB_true.1 h
  exact ⟨x.toNat, by omega, by omega⟩
theorem pow7 {q : Nat} (h : q ≤ 7) : 2 ^ q ≤ 128 := Nat.pow_le_pow_right (n := 2) (by omega) h
theorem wrap_small {x : Int} (h0 : 0 ≤ x) (h1 : x ≤ 4611686018427387904) : wrap64 x = x := by
  exact Go.IntWalk.wrap64_in _ ⟨by omega, by omega⟩
end M




set_option maxHeartbeats 1000000 in
theorem iCoverOk_c (B : Nat) (A : Option Addr) (n c : Nat) (xs : List Int) (p : Int) (w : World) (h : OwnI w B A n c xs) (hn : n ≤ 1048576) :
    Calls Tryd.prog 22 #[.int .i64 p, .slice A n c] w fun e w' => e = .returned (.bool (M.coverW p xs)) ∧ Below w.heap.size w w' := by
  go_enter Tryd.func22, Tryd.ntmps22
  go_wp2_with fail
  refine (teamOf_c B A n c xs p _ h hn).mono ?_
  rintro e w1 ⟨hb1, (⟨hp, rfl⟩ | ⟨hp, b, rfl, hT⟩)⟩
  · have Hg := Lib.hid (show M.coverW p xs = false by simp [M.coverW, hp])
    go_wp2
    go_ret
    exact ⟨by rw [Hg.out]; rfl, hb1.alloc hb1.size _⟩
  · obtain ⟨q, rfl, hq1, hq7⟩ := M.lost_p hp
    have Hg := Lib.hid (M.cover_ok hp)
    go_wp2_with fail
    refine (cover_c b q xs _ (hT.below ((Below.refl _ _).alloc (Nat.le_refl _) _)) hq7).mono ?_
    rintro e w2 ⟨rfl, hb2⟩
    go_wp2
    go_ret
    exact ⟨by rw [Hg.out]; rfl, (hb1.alloc hb1.size _).trans (hb2.mono (by simp; have := hb1.size; omega))⟩

set_option maxHeartbeats 1000000 in
theorem iWinsOf_c (B : Nat) (A : Option Addr) (n c : Nat) (xs : List Int) (p : Int) (w : World) (h : OwnI w B A n c xs) (hn : n ≤ 1048576) :
    Calls Tryd.prog 23 #[.int .i64 p, .slice A n c] w fun e w' => e = .returned (.int .i64 (M.winsOf p xs)) ∧ Below w.heap.size w w' := by
  go_enter Tryd.func23, Tryd.ntmps23
  go_wp2_with fail
  refine (teamOf_c B A n c xs p _ h hn).mono ?_
  rintro e w1 ⟨hb1, (⟨hp, rfl⟩ | ⟨hp, b, rfl, hT⟩)⟩
  · have Hg := Lib.hid (show M.winsOf p xs = -1 by simp [M.winsOf, hp])
    go_wp2
    go_ret
    exact ⟨by rw [Hg.out]; rfl, hb1.alloc hb1.size _⟩
  · obtain ⟨q, rfl, hq1, hq7⟩ := M.lost_p hp
    have h128 := M.pow7 hq7
    have Hg := Lib.hid (M.winsOf_ok hp)
    have hw2 : wrap64 ((2 : Int) ^ q) = 2 ^ q := M.wrap_pow q (by omega)
    have hc := new_two w1 (.int .i64 q) (.map (some b)) 52
    have h1 := hT.below ((Below.refl w1.heap.size w1).alloc (Nat.le_refl _) (.cells #[.int .i64 q, .map (some b)] 52))
    have hb2 := hb1.alloc hb1.size (.cells #[.int .i64 q, .map (some b)] 52)
    go_wp2_with fail
    obtain ⟨M0, hM0⟩ : ∃ M0 : Nat, M0 = 2 ^ q := ⟨_, rfl⟩
    have eM : ((2 : Int) ^ q) = (M0 : Int) := by rw [hM0]; simp
    rw [← hM0] at h128
    rw [hw2, eM]
    have HM0 := Lib.hid hM0
    clear hM0 eM hw2
    obtain ⟨B0, hB0⟩ : ∃ B0, B0 = w1.heap.size := ⟨_, rfl⟩
    rw [← hB0] at hc ⊢
    generalize (w1.alloc (.cells #[.int .i64 q, .map (some b)] 52)) = w2 at *
    obtain ⟨c0, c1, hlt0⟩ := hc
    have HB0 := Lib.hid hB0
    clear hB0
    go_loopw [7, 19] (fun s i wr => ∃ m : Nat, m ≤ M0 ∧ i = .int .i64 m ∧ s = .int .i64 (M.wonN xs q m) ∧ Below w2.heap.size w2 wr) (fun _ i _ => M0 - (intOf i).toNat)
    case atStart => exact ⟨0, Nat.zero_le _, rfl, rfl, Below.refl _ _⟩
    case round =>
      obtain ⟨m, hm, rfl, rfl, hbr⟩ := hrel
      have d0 := (hbr.cell (p := ⟨B0, 0, none⟩) hlt0).trans c0
      have d1 := (hbr.cell (p := ⟨B0, 1, none⟩) hlt0).trans c1
      have hle := M.wonN_le xs q m
      by_cases hlt : m < M0
      · have hs : M.wonN xs q (m + 1) = M.wonN xs q m + (if M.winsN xs m q = true then 1 else 0) := rfl
        have Hs := Lib.hid hs
        clear hs
        go_wp2_with fail
        refine (wins_c b q xs m _ (h1.below hbr) (by omega) hq7).mono ?_
        rintro e w3 ⟨rfl, hb3⟩
        cases hwn : M.winsN xs m q <;> rw [hwn] at Hs
        · go_wp2
          exact ⟨⟨m + 1, by omega, rfl, by rw [Hs.out]; rfl, hbr.trans (hb3.mono hbr.size)⟩, by simp only [intOf]; omega⟩
        · go_wp2
          exact ⟨⟨m + 1, by omega, rfl, by rw [Hs.out]; rfl, hbr.trans (hb3.mono hbr.size)⟩, by simp only [intOf]; omega⟩
      · obtain rfl : m = M0 := by omega
        go_wp2
        go_ret
        exact ⟨by rw [Hg.out, ← HM0.out]; rfl, hb2.trans (hbr.mono hb2.size)⟩

end Go.Proofs.YtebjhdipdffkgaaDoor
