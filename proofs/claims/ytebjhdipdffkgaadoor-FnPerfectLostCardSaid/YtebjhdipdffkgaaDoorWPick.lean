/- Contracts on picked words. -/
import Derived.Test.YtebjhdipdffkgaaDoorWMost
namespace Go.Proofs.YtebjhdipdffkgaaDoor
open Go Go.RowKit
open M (nth)

namespace M
/-- The words picked among the first n numbers. -/
def okP (f : Nat) (xs : List Int) (n : Nat) : Bool := decide (xs.length < 16) && xs.all fun x => decide (f ≤ farN x.toNat n)
def pk (f : Nat) : Nat → List Int
  | 0 => []
  | n + 1 => if okP f (pk f n) n = true then pk f n ++ [(n : Int)] else pk f n
def picked (b f : Int) : List Int := if inB b 1 8 && inB f 1 b then pk f.toNat (2 ^ b.toNat) else []
theorem picked_ok {b f : Nat} (h1 : inB (b : Int) 1 8 = true) (h2 : inB (f : Int) 1 b = true) : picked (b : Int) (f : Int) = pk f (2 ^ b) := by simp [picked, h1, h2]
theorem pk_yes {f n : Nat} (h : okP f (pk f n) n = true) : pk f (n + 1) = pk f n ++ [(n : Int)] := by simp [pk, h]
theorem pk_no {f n : Nat} (h : okP f (pk f n) n = false) : pk f (n + 1) = pk f n := by simp [pk, h]
theorem pk_len (f : Nat) : ∀ n, (pk f n).length ≤ 16
  | 0 => by simp [pk]
  | n + 1 => by
    have := pk_len f n
    cases h : okP f (pk f n) n with
    | false => rw [pk_no h]; exact this
    | true =>
      rw [pk_yes h]
      unfold okP at h
      rw [Bool.and_eq_true, decide_eq_true_eq] at h
      simp
      omega
theorem pk_full {f k : Nat} (h : (pk f k).length = 16) : ∀ d, pk f (k + d) = pk f k
  | 0 => rfl
  | d + 1 => by
    have ih := pk_full h d
    show pk f (k + d + 1) = _
    rw [pk_no (by rw [ih]; simp [okP, h]), ih]
theorem pk_in (f : Nat) : ∀ n, ∀ x ∈ pk f n, 0 ≤ x ∧ x < n
  | 0 => by simp [pk]
  | n + 1 => fun x hx => by
    cases h : okP f (pk f n) n with
    | false =>
      rw [pk_no h] at hx
      have := pk_in f n x hx
      omega
    | true =>
      rw [pk_yes h, List.mem_append] at hx
      rcases hx with hx | hx
      · have := pk_in f n x hx
        omega
      · simp at hx
        omega
theorem nth_mem {xs : List Int} {k : Nat} (h : k < xs.length) : nth xs k ∈ xs := by rw [nth_lt h]; exact List.getElem_mem h
theorem pk_nth (f n k : Nat) (hk : k < (pk f n).length) : 0 ≤ nth (pk f n) k ∧ nth (pk f n) k < n := pk_in f n _ (nth_mem hk)
theorem okP_full {f n : Nat} {xs : List Int} (h : ¬ xs.length < 16) : okP f xs n = false := by simp [okP, h]
theorem okP_near {f n k : Nat} {xs : List Int} (hk : k < xs.length) (h : farN (nth xs k).toNat n < f) : okP f xs n = false := by
  unfold okP
  rw [Bool.and_eq_false_iff]
  right
  rw [List.all_eq_false]
  exact ⟨_, nth_mem hk, by simp; omega⟩
theorem okP_yes {f n : Nat} {xs : List Int} (h : xs.length < 16) (hall : ∀ k, k < xs.length → f ≤ farN (nth xs k).toNat n) : okP f xs n = true := by
  unfold okP
  rw [Bool.and_eq_true, decide_eq_true_eq, List.all_eq_true]
  refine ⟨h, fun x hx => ?_⟩
  obtain ⟨k, hk, rfl⟩ := List.getElem_of_mem hx
  have := hall k hk
  rw [nth_lt hk] at this
  simpa using this
/-- How many of the first k words are within m of x. -/
def wiN (xs : List Int) (x : Nat) (m : Int) : Nat → Nat
  | 0 => 0
  | k + 1 => wiN xs x m k + (if (farN (nth xs k).toNat x : Int) ≤ m then 1 else 0)
theorem wiN_le (xs : List Int) (x : Nat) (m : Int) : ∀ k, wiN xs x m k ≤ k
  | 0 => Nat.le_refl _
  | k + 1 => by
    have := wiN_le xs x m k
    simp only [wiN]
    split <;> omega
theorem wiN_zero {xs : List Int} {x : Nat} {m : Int} : ∀ {n : Nat}, (wiN xs x m n = 0 ↔ ∀ k, k < n → m < farN (nth xs k).toNat x)
  | 0 => by simp [wiN]
  | n + 1 => by
    have ih := wiN_zero (xs := xs) (x := x) (m := m) (n := n)
    simp only [wiN]
    constructor
    · intro h k hk
      by_cases e : k = n
      · subst e
        by_cases h2 : (farN (nth xs k).toNat x : Int) ≤ m
        · rw [if_pos h2] at h; omega
        · omega
      · exact ih.1 (by omega) k (by omega)
    · intro h
      have h1 := ih.2 fun k hk => h k (by omega)
      have h2 := h n (by omega)
      rw [if_neg (by omega)]
      omega
theorem okP_within {f n : Nat} {xs : List Int} (hl : xs.length < 16) : okP f xs n = decide (wiN xs n ((f : Int) - 1) xs.length = 0) := by
  rw [Bool.eq_iff_iff, decide_eq_true_eq, wiN_zero]
  constructor
  · intro h k hk
    by_cases h2 : farN (nth xs k).toNat n < f
    · rw [okP_near hk h2] at h; cases h
    · omega
  · intro h
    exact okP_yes hl fun k hk => by have := h k hk; omega
end M

set_option maxHeartbeats 400000 in
theorem within_c (A : Option Addr) (n c : Nat) (xs : List Int) (x : Nat) (m : Int) (w : World) (h : RdI w A n xs) (hin : ∀ k, k < n → 0 ≤ nth xs k ∧ nth xs k < 256) (hx : x < 256) :
    Calls Tryd.prog 34 #[.slice A n c, .int .i64 x, .int .i64 m] w fun e w' => e = .returned (.int .i64 (M.wiN xs x m n : Nat)) ∧ w' = w := by
  have hbig := h.big
  go_enter Tryd.func34, Tryd.ntmps34
  go_wp2_with fail
  go_loopw [7, 12] (fun s i wr => ∃ k : Nat, k ≤ n ∧ i = .int .i64 k ∧ s = .int .i64 (M.wiN xs x m k : Nat) ∧ wr = w) (fun _ i _ => n - (intOf i).toNat)
  case atStart => exact ⟨0, Nat.zero_le _, rfl, rfl, rfl⟩
  case round =>
    obtain ⟨k, hk, rfl, rfl, rfl⟩ := hrel
    have hle := M.wiN_le xs x m k
    by_cases hlt : k < n
    · obtain ⟨ad, rfl, _, hcell⟩ := h.at_ hlt
      have hi := hin k hlt
      have hs : M.wiN xs x m (k + 1) = M.wiN xs x m k + (if (M.farN (nth xs k).toNat x : Int) ≤ m then 1 else 0) := rfl
      obtain ⟨y, hy⟩ : ∃ y : Nat, nth xs k = (y : Int) := ⟨(nth xs k).toNat, by omega⟩
      rw [hy] at hs hcell hi
      have hy256 : y < 256 := by omega
      simp only [Int.toNat_natCast] at hs
      clear hy hi
      go_wp2_with fail
      refine (iFar_c y x _ hy256 hx).mono ?_
      rintro e w1 ⟨rfl, rfl⟩
      by_cases hm : (M.farN y x : Int) ≤ m
      · rw [if_pos hm] at hs
        have Hs := Lib.hid hs
        clear hs
        go_wp2
        go_roundw
        case rel => exact ⟨k + 1, by omega, by go_num, by rw [Hs.out]; rfl, by first | rfl | trivial⟩
        case measure => simp [intOf]; omega
      · rw [if_neg hm] at hs
        have Hs := Lib.hid hs
        clear hs
        go_wp2
        go_roundw
        case rel => exact ⟨k + 1, by omega, by go_num, by rw [Hs.out]; rfl, by first | rfl | trivial⟩
        case measure => simp [intOf]; omega
    · obtain rfl : k = n := by omega
      go_wp2
      go_ret
      exact ⟨rfl, rfl⟩


end Go.Proofs.YtebjhdipdffkgaaDoor
