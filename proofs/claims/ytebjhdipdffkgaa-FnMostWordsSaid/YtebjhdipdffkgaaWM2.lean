/- Plain lemmas on picked words. -/
import Derived.Test.YtebjhdipdffkgaaSPick
namespace Go.Proofs.Ytebjhdipdffkgaa.M

/-- The picked words, reckoned from the first number on, the last one first. -/
def prun (f : Nat) : Nat → Nat → List Nat → Nat → List Nat
  | 0, _, acc, _ => acc
  | d + 1, n, acc, len => bif (Nat.blt len 16 && acc.all fun x => Nat.ble f (pop (x ^^^ n))) then prun f d (n + 1) (n :: acc) (len + 1) else prun f d (n + 1) acc len
theorem prun_all : ∀ b : Nat, b < 9 → ∀ f : Nat, f < 9 → 1 ≤ f → f ≤ b → f % 2 = 1 → (prun f (2 ^ b) 0 [] 0).length ≤ 2 ^ b / atm b (f / 2 + 1) := by decide +kernel

theorem okP_acc {f n : Nat} {acc : List Nat} {xs : List Int} (h : xs = acc.reverse.map fun x : Nat => (x : Int)) : okP f xs n = (Nat.blt acc.length 16 && acc.all fun x => Nat.ble f (pop (x ^^^ n))) := by
  subst h
  unfold okP
  congr 1
  · rw [Bool.eq_iff_iff, decide_eq_true_eq]
    simp [Nat.blt_eq]
  · rw [List.all_map, List.all_reverse]
    congr 1
    funext x
    simp only [Function.comp_apply, Int.toNat_natCast, pop_xor]
    rw [Bool.eq_iff_iff, decide_eq_true_eq, Nat.ble_eq]
theorem prun_pk (f : Nat) : ∀ (d n : Nat) (acc : List Nat) (len : Nat), pk f n = (acc.reverse.map fun x : Nat => (x : Int)) → len = acc.length → (prun f d n acc len).length = (pk f (n + d)).length
  | 0, n, acc, len, h, _ => by simp [prun, h]
  | d + 1, n, acc, len, h, hl => by
    subst hl
    have hok := okP_acc (f := f) (n := n) h
    simp only [prun]
    cases hc : (Nat.blt acc.length 16 && acc.all fun x => Nat.ble f (pop (x ^^^ n))) with
    | true =>
      rw [hc] at hok
      have := prun_pk f d (n + 1) (n :: acc) (acc.length + 1) (by rw [pk_yes hok, h]; simp) (by simp)
      rw [show n + (d + 1) = n + 1 + d by omega, ← this]
      rfl
    | false =>
      rw [hc] at hok
      have := prun_pk f d (n + 1) acc acc.length (by rw [pk_no hok, h]) rfl
      rw [show n + (d + 1) = n + 1 + d by omega, ← this]
      rfl
theorem picked_most {b f : Nat} (h1 : inB (b : Int) 1 8 = true) (h2 : inB (f : Int) 1 b = true) (h3 : f % 2 = 1) : ((picked (b : Int) (f : Int)).length : Int) ≤ mostW (b : Int) (f : Int) := by
  have h1' := inB_true.1 h1
  have h2' := inB_true.1 h2
  rw [picked_ok h1 h2, mostW_ok h1 h2 h3]
  have := prun_pk f (2 ^ b) 0 [] 0 rfl rfl
  rw [Nat.zero_add] at this
  have h := prun_all b (by omega) f (by omega) (by omega) (by omega) h3
  rw [this] at h
  exact Int.ofNat_le.2 h
theorem most_cases {b f : Int} : mostW b f = -1 ∨ (1 ≤ mostW b f ∧ mostW b f ≤ 256 ∧ ((picked b f).length : Int) ≤ mostW b f) := by
  cases h1 : inB b 1 8 with
  | false => exact .inl (by simp [mostW, h1])
  | true =>
    cases h2 : inB f 1 b with
    | false => exact .inl (by simp [mostW, h2])
    | true =>
      have h1' := inB_true.1 h1
      have h2' := inB_true.1 h2
      obtain ⟨b', rfl⟩ : ∃ b' : Nat, b = (b' : Int) := ⟨b.toNat, by omega⟩
      obtain ⟨f', rfl⟩ : ∃ f' : Nat, f = (f' : Int) := ⟨f.toNat, by omega⟩
      rcases Nat.mod_two_eq_zero_or_one f' with h3 | h3
      · exact .inl (mostW_even h3)
      · right
        have := picked_most h1 h2 h3
        obtain ⟨m1, m2, m3⟩ := most_in b' (by omega) f' (by omega) (by omega) (by omega)
        rw [mostW_ok h1 h2 h3] at this ⊢
        exact ⟨by omega, by omega, this⟩
theorem most_73 : mostW 7 3 = 16 := by decide +kernel

end Go.Proofs.Ytebjhdipdffkgaa.M
