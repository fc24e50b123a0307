/- Contracts of the program's LeastCover. -/
import Derived.Test.YtebjhdipdffkgaaDoorCov
namespace Go.Proofs.YtebjhdipdffkgaaDoor
open Go Go.RowKit
open M (nth)

namespace M
/-- The words that a word reaches by the first k people, as a set. -/
def rch (a : Nat) : Nat → Nat
  | 0 => 2 ^ a
  | k + 1 => rch a k ||| 2 ^ (a ^^^ 2 ^ k)
theorem rch_lt : ∀ p : Nat, p < 5 → ∀ a : Nat, a < 2 ^ p → ∀ k : Nat, k < p + 1 → rch a k < 2 ^ (2 ^ p) ∧ (k < p → a ^^^ 2 ^ k < 2 ^ p) := by decide +kernel
def rls (p n a v : Nat) : List Int := (List.range n).map fun j => if j < a then (rch j p : Int) else if j = a then (v : Int) else 0
theorem length_rls (p n a v : Nat) : (rls p n a v).length = n := by simp [rls]
theorem nth_rls {p n a v j : Nat} (h : j < n) : nth (rls p n a v) j = if j < a then (rch j p : Int) else if j = a then (v : Int) else 0 := by simp [nth, rls, h]
theorem rls_zero (p n : Nat) : rls p n 0 0 = List.replicate n 0 := by
  apply List.ext_getElem
  · simp [rls]
  · intro i h1 h2
    simp [rls]
theorem rls_set {p n a v u : Nat} : (rls p n a v).set a (u : Int) = rls p n a u := by
  apply List.ext_getElem
  · simp [rls]
  · intro i h1 h2
    rw [List.getElem_set]
    by_cases e : a = i
    · subst e; simp [rls]
    · have e' : ¬ i = a := fun x => e x.symm
      simp [rls, e, e']
theorem rls_next (p n a : Nat) : rls p n a (rch a p) = rls p n (a + 1) 0 := by
  unfold rls
  apply List.map_congr_left
  intro j _
  by_cases h1 : j < a
  · simp [h1, show j < a + 1 by omega]
  · by_cases h2 : j = a
    · subst h2; simp
    · simp [h1, h2, show ¬ j < a + 1 by omega]
def covL (rec : Nat → Nat → Bool) (p r : Nat) : Nat → Nat → Bool
  | 0, _ => false
  | g + 1, word => rec (word + 1) (r ||| rch word p) || covL rec p r g (word + 1)
def cov (p n full : Nat) : Nat → Nat → Nat → Bool
  | 0, _, r => Nat.beq r full
  | l + 1, from_, r => Nat.beq r full || covL (cov p n full l) p r (n - from_) from_
theorem cov_full {p n full from_ : Nat} : ∀ l, cov p n full l from_ full = true
  | 0 => by simp [cov]
  | l + 1 => by simp [cov]
theorem beq_no {r full : Nat} (h : ¬ r = full) : Nat.beq r full = false := by
  cases e : Nat.beq r full with
  | false => rfl
  | true => exact absurd (Nat.eq_of_beq_eq_true e) h
theorem cov_no0 {p n full from_ r : Nat} (h : ¬ r = full) : cov p n full 0 from_ r = false := beq_no h
theorem cov_no {p n full from_ r l : Nat} (h : ¬ r = full) : cov p n full (l + 1) from_ r = covL (cov p n full l) p r (n - from_) from_ := by
  simp [cov, beq_no h]
theorem cov_fact : ∀ p : Nat, p < 5 → 1 ≤ p → (∀ m : Nat, m < lcv p → 1 ≤ m → cov p (2 ^ p) (2 ^ (2 ^ p) - 1) m 0 0 = false) ∧ cov p (2 ^ p) (2 ^ (2 ^ p) - 1) (lcv p) 0 0 = true := by decide +kernel
end M

/-- What the closure finds in memory. -/
def CovAt (w : World) (b3 b7 b4 g p n : Nat) : Prop :=
  w.cell? ⟨b3, 0, none⟩ = some (.int .i64 n) ∧ w.cell? ⟨b7, 0, none⟩ = some (.func (.func 42) #[] #[.pointer (some ⟨b3, 0, none⟩), .pointer (some ⟨b7, 0, none⟩), .pointer (some ⟨b4, 0, none⟩)]) ∧
  w.cell? ⟨b4, 0, none⟩ = some (.slice (some ⟨g, 0, none⟩) n n) ∧ ∀ j, j < n → w.cell? ⟨g, j, none⟩ = some (.int .i64 (M.rch j p : Nat))
theorem CovAt.quiet {w w' : World} {b3 b7 b4 g p n : Nat} (h : CovAt w b3 b7 b4 g p n) (hq : Quiet w w') : CovAt w' b3 b7 b4 g p n :=
  ⟨hq.cell h.1, hq.cell h.2.1, hq.cell h.2.2.1, fun j hj => hq.cell (h.2.2.2 j hj)⟩

set_option maxHeartbeats 2000000 in
theorem cov1_c (b3 b7 b4 g : Nat) : ∀ (l : Nat) (from_ r : Nat) (w : World), CovAt w b3 b7 b4 g 1 2 → l ≤ 16 → from_ ≤ 2 → r < 4 →
    Calls Tryd.prog 42 #[.int .i64 (from_ : Nat), .int .i64 (l : Nat), .int .i64 (r : Nat), .pointer (some ⟨b3, 0, none⟩), .pointer (some ⟨b7, 0, none⟩), .pointer (some ⟨b4, 0, none⟩)] w fun e w' => e = .returned (.bool (M.cov 1 2 3 l from_ r)) ∧ Quiet w w' := by
  intro l
  induction l with
  | zero =>
    intro from_ r w h hl hf hr
    obtain ⟨c3, c7, c4, -⟩ := h
    by_cases he : r = 3
    · subst he
      have Hs := Lib.hid (M.cov_full (p := 1) (n := 2) (full := 3) (from_ := from_) 0)
      go_enter Tryd.func42, Tryd.ntmps42
      go_wp2_with fail
      go_ret
      exact ⟨by rw [Hs.out]; rfl, Quiet.refl _⟩
    · have he' : ((r : Int) == 3) = false := by simp; omega
      have Hs := Lib.hid (M.cov_no0 (p := 1) (n := 2) (full := 3) (from_ := from_) he)
      clear he
      go_enter Tryd.func42, Tryd.ntmps42
      go_wp2_with fail
      go_loopg [10] 0 (fun _ i wr => i = .int .i64 from_ ∧ wr = w)
      case atStart => exact ⟨rfl, rfl⟩
      case round =>
        obtain ⟨rfl, rfl⟩ := hrel
        go_wp2
        go_ret
        exact ⟨by rw [Hs.out]; rfl, Quiet.refl _⟩
  | succ l ih0 =>
    intro from_ r w h hl hf hr
    have ih := fun (f2 r2 : Nat) (w2 : World) h2 => ih0 f2 r2 w2 h2 (by omega)
    clear ih0
    have hC := h
    obtain ⟨c3, c7, c4, cg⟩ := h
    by_cases he : r = 3
    · subst he
      have Hs := Lib.hid (M.cov_full (p := 1) (n := 2) (full := 3) (from_ := from_) (l + 1))
      clear ih
      go_enter Tryd.func42, Tryd.ntmps42
      go_wp2_with fail
      go_ret
      exact ⟨by rw [Hs.out]; rfl, Quiet.refl _⟩
    · have he' : ((r : Int) == 3) = false := by simp; omega
      have Hs := Lib.hid (M.cov_no (p := 1) (n := 2) (full := 3) (from_ := from_) (l := l) he)
      have Ih := Lib.hid ih
      have Cg := Lib.hid cg
      have HC := Lib.hid hC
      clear he ih cg hC
      have dl : decide ((0 : Int) < (l : Int) + 1) = true := decide_eq_true (by omega)
      go_enter Tryd.func42, Tryd.ntmps42
      go_wp2_with fail
      clear c3 c7 c4 he'
      go_loopg [10] (2 - from_) (fun g2 i wr => ∃ k : Nat, k + g2 = 2 ∧ i = .int .i64 k ∧ Hid (M.cov 1 2 3 (l + 1) from_ r = M.covL (M.cov 1 2 3 l) 1 r g2 k) ∧ Quiet w wr)
      case atStart => exact ⟨from_, by omega, rfl, Hs, Quiet.refl _⟩
      case round =>
        obtain ⟨k, hk, rfl, Hk, hq⟩ := hrel
        have hCr := HC.out.quiet hq
        obtain ⟨c3, c7, c4, cg⟩ := hCr
        by_cases hlt : k < 2
        · obtain ⟨g2, rfl⟩ : ∃ g2, gk = g2 + 1 := ⟨gk - 1, by omega⟩
          have hck := cg k hlt
          clear cg
          have hrl := (M.rch_lt 1 (by omega) k (by simpa using hlt) 1 (by omega)).1
          simp only [Nat.reducePow] at hrl
          have hbor := M.bor r (M.rch k 1) (by omega) (by omega)
          have hor : r ||| M.rch k 1 < 4 := Nat.or_lt_two_pow (n := 2) (by omega) (by omega)
          have hcall : ∀ m, Calls Tryd.prog 42 #[.int .i64 ((k : Int) + 1), .int .i64 l, .int .i64 (r ||| M.rch k 1 : Nat), .pointer (some ⟨b3, 0, none⟩), .pointer (some ⟨b7, 0, none⟩), .pointer (some ⟨b4, 0, none⟩)] (wr.drewN m) fun e w' => e = .returned (.bool (M.cov 1 2 3 l (k + 1) (r ||| M.rch k 1))) ∧ Quiet (wr.drewN m) w' := fun m =>
            Ih.out (k + 1) _ (wr.drewN m) ((HC.out.quiet hq).quiet ⟨m, rfl⟩) (by omega) hor
          have Hs2 := Lib.hid (show M.covL (M.cov 1 2 3 l) 1 r (g2 + 1) k = (M.cov 1 2 3 l (k + 1) (r ||| M.rch k 1) || M.covL (M.cov 1 2 3 l) 1 r g2 (k + 1)) from rfl)
          have t1 : IntKind.i64.wrap ((k : Int) + 1) = (k : Int) + 1 := by rw [IntKind.wrap_i64]; omega
          have t2 : IntKind.i64.wrap ((l : Int) + 1 - 1) = (l : Int) := by rw [IntKind.wrap_i64]; omega
          have dk : decide ((k : Int) < 2) = true := by simp; omega
          cases hv : M.cov 1 2 3 l (k + 1) (r ||| M.rch k 1) with
          | true =>
            rw [hv] at Hs2 hcall
            go_wp2_with fail
            go_quiet ((go_at_call 42; exact quiet_m (hcall _)))
            go_wp2
            go_ret
            exact ⟨by rw [Hk.out, Hs2.out]; rfl, hq.drewN _⟩
          | false =>
            rw [hv] at Hs2 hcall
            go_wp2_with fail
            go_quiet ((go_at_call 42; exact quiet_m (hcall _)))
            clear t1 t2
            go_wp2
            go_roundg g2
            case measure => omega
            case rel => exact ⟨k + 1, by omega, by go_num, Lib.hid (by rw [Hk.out, Hs2.out, Bool.false_or]), hq.drewN _⟩
        · obtain rfl : k = 2 := by omega
          obtain rfl : gk = 0 := by omega
          clear cg
          go_wp2
          go_ret
          exact ⟨by rw [Hk.out]; rfl, hq⟩

set_option maxHeartbeats 2000000 in
theorem cov2_c (b3 b7 b4 g : Nat) : ∀ (l : Nat) (from_ r : Nat) (w : World), CovAt w b3 b7 b4 g 2 4 → l ≤ 16 → from_ ≤ 4 → r < 16 →
    Calls Tryd.prog 42 #[.int .i64 (from_ : Nat), .int .i64 (l : Nat), .int .i64 (r : Nat), .pointer (some ⟨b3, 0, none⟩), .pointer (some ⟨b7, 0, none⟩), .pointer (some ⟨b4, 0, none⟩)] w fun e w' => e = .returned (.bool (M.cov 2 4 15 l from_ r)) ∧ Quiet w w' := by
  intro l
  induction l with
  | zero =>
    intro from_ r w h hl hf hr
    obtain ⟨c3, c7, c4, -⟩ := h
    by_cases he : r = 15
    · subst he
      have Hs := Lib.hid (M.cov_full (p := 2) (n := 4) (full := 15) (from_ := from_) 0)
      go_enter Tryd.func42, Tryd.ntmps42
      go_wp2_with fail
      go_ret
      exact ⟨by rw [Hs.out]; rfl, Quiet.refl _⟩
    · have he' : ((r : Int) == 15) = false := by simp; omega
      have Hs := Lib.hid (M.cov_no0 (p := 2) (n := 4) (full := 15) (from_ := from_) he)
      clear he
      go_enter Tryd.func42, Tryd.ntmps42
      go_wp2_with fail
      go_loopg [10] 0 (fun _ i wr => i = .int .i64 from_ ∧ wr = w)
      case atStart => exact ⟨rfl, rfl⟩
      case round =>
        obtain ⟨rfl, rfl⟩ := hrel
        go_wp2
        go_ret
        exact ⟨by rw [Hs.out]; rfl, Quiet.refl _⟩
  | succ l ih0 =>
    intro from_ r w h hl hf hr
    have ih := fun (f2 r2 : Nat) (w2 : World) h2 => ih0 f2 r2 w2 h2 (by omega)
    clear ih0
    have hC := h
    obtain ⟨c3, c7, c4, cg⟩ := h
    by_cases he : r = 15
    · subst he
      have Hs := Lib.hid (M.cov_full (p := 2) (n := 4) (full := 15) (from_ := from_) (l + 1))
      clear ih
      go_enter Tryd.func42, Tryd.ntmps42
      go_wp2_with fail
      go_ret
      exact ⟨by rw [Hs.out]; rfl, Quiet.refl _⟩
    · have he' : ((r : Int) == 15) = false := by simp; omega
      have Hs := Lib.hid (M.cov_no (p := 2) (n := 4) (full := 15) (from_ := from_) (l := l) he)
      have Ih := Lib.hid ih
      have Cg := Lib.hid cg
      have HC := Lib.hid hC
      clear he ih cg hC
      have dl : decide ((0 : Int) < (l : Int) + 1) = true := decide_eq_true (by omega)
      go_enter Tryd.func42, Tryd.ntmps42
      go_wp2_with fail
      clear c3 c7 c4 he'
      go_loopg [10] (4 - from_) (fun g2 i wr => ∃ k : Nat, k + g2 = 4 ∧ i = .int .i64 k ∧ Hid (M.cov 2 4 15 (l + 1) from_ r = M.covL (M.cov 2 4 15 l) 2 r g2 k) ∧ Quiet w wr)
      case atStart => exact ⟨from_, by omega, rfl, Hs, Quiet.refl _⟩
      case round =>
        obtain ⟨k, hk, rfl, Hk, hq⟩ := hrel
        have hCr := HC.out.quiet hq
        obtain ⟨c3, c7, c4, cg⟩ := hCr
        by_cases hlt : k < 4
        · obtain ⟨g2, rfl⟩ : ∃ g2, gk = g2 + 1 := ⟨gk - 1, by omega⟩
          have hck := cg k hlt
          clear cg
          have hrl := (M.rch_lt 2 (by omega) k (by simpa using hlt) 2 (by omega)).1
          simp only [Nat.reducePow] at hrl
          have hbor := M.bor r (M.rch k 2) (by omega) (by omega)
          have hor : r ||| M.rch k 2 < 16 := Nat.or_lt_two_pow (n := 4) (by omega) (by omega)
          have hcall : ∀ m, Calls Tryd.prog 42 #[.int .i64 ((k : Int) + 1), .int .i64 l, .int .i64 (r ||| M.rch k 2 : Nat), .pointer (some ⟨b3, 0, none⟩), .pointer (some ⟨b7, 0, none⟩), .pointer (some ⟨b4, 0, none⟩)] (wr.drewN m) fun e w' => e = .returned (.bool (M.cov 2 4 15 l (k + 1) (r ||| M.rch k 2))) ∧ Quiet (wr.drewN m) w' := fun m =>
            Ih.out (k + 1) _ (wr.drewN m) ((HC.out.quiet hq).quiet ⟨m, rfl⟩) (by omega) hor
          have Hs2 := Lib.hid (show M.covL (M.cov 2 4 15 l) 2 r (g2 + 1) k = (M.cov 2 4 15 l (k + 1) (r ||| M.rch k 2) || M.covL (M.cov 2 4 15 l) 2 r g2 (k + 1)) from rfl)
          have t1 : IntKind.i64.wrap ((k : Int) + 1) = (k : Int) + 1 := by rw [IntKind.wrap_i64]; omega
          have t2 : IntKind.i64.wrap ((l : Int) + 1 - 1) = (l : Int) := by rw [IntKind.wrap_i64]; omega
          have dk : decide ((k : Int) < 4) = true := by simp; omega
          cases hv : M.cov 2 4 15 l (k + 1) (r ||| M.rch k 2) with
          | true =>
            rw [hv] at Hs2 hcall
            go_wp2_with fail
            go_quiet ((go_at_call 42; exact quiet_m (hcall _)))
            go_wp2
            go_ret
            exact ⟨by rw [Hk.out, Hs2.out]; rfl, hq.drewN _⟩
          | false =>
            rw [hv] at Hs2 hcall
            go_wp2_with fail
            go_quiet ((go_at_call 42; exact quiet_m (hcall _)))
            clear t1 t2
            go_wp2
            go_roundg g2
            case measure => omega
            case rel => exact ⟨k + 1, by omega, by go_num, Lib.hid (by rw [Hk.out, Hs2.out, Bool.false_or]), hq.drewN _⟩
        · obtain rfl : k = 4 := by omega
          obtain rfl : gk = 0 := by omega
          clear cg
          go_wp2
          go_ret
          exact ⟨by rw [Hk.out]; rfl, hq⟩

set_option maxHeartbeats 2000000 in
theorem cov3_c (b3 b7 b4 g : Nat) : ∀ (l : Nat) (from_ r : Nat) (w : World), CovAt w b3 b7 b4 g 3 8 → l ≤ 16 → from_ ≤ 8 → r < 256 →
    Calls Tryd.prog 42 #[.int .i64 (from_ : Nat), .int .i64 (l : Nat), .int .i64 (r : Nat), .pointer (some ⟨b3, 0, none⟩), .pointer (some ⟨b7, 0, none⟩), .pointer (some ⟨b4, 0, none⟩)] w fun e w' => e = .returned (.bool (M.cov 3 8 255 l from_ r)) ∧ Quiet w w' := by
  intro l
  induction l with
  | zero =>
    intro from_ r w h hl hf hr
    obtain ⟨c3, c7, c4, -⟩ := h
    by_cases he : r = 255
    · subst he
      have Hs := Lib.hid (M.cov_full (p := 3) (n := 8) (full := 255) (from_ := from_) 0)
      go_enter Tryd.func42, Tryd.ntmps42
      go_wp2_with fail
      go_ret
      exact ⟨by rw [Hs.out]; rfl, Quiet.refl _⟩
    · have he' : ((r : Int) == 255) = false := by simp; omega
      have Hs := Lib.hid (M.cov_no0 (p := 3) (n := 8) (full := 255) (from_ := from_) he)
      clear he
      go_enter Tryd.func42, Tryd.ntmps42
      go_wp2_with fail
      go_loopg [10] 0 (fun _ i wr => i = .int .i64 from_ ∧ wr = w)
      case atStart => exact ⟨rfl, rfl⟩
      case round =>
        obtain ⟨rfl, rfl⟩ := hrel
        go_wp2
        go_ret
        exact ⟨by rw [Hs.out]; rfl, Quiet.refl _⟩
  | succ l ih0 =>
    intro from_ r w h hl hf hr
    have ih := fun (f2 r2 : Nat) (w2 : World) h2 => ih0 f2 r2 w2 h2 (by omega)
    clear ih0
    have hC := h
    obtain ⟨c3, c7, c4, cg⟩ := h
    by_cases he : r = 255
    · subst he
      have Hs := Lib.hid (M.cov_full (p := 3) (n := 8) (full := 255) (from_ := from_) (l + 1))
      clear ih
      go_enter Tryd.func42, Tryd.ntmps42
      go_wp2_with fail
      go_ret
      exact ⟨by rw [Hs.out]; rfl, Quiet.refl _⟩
    · have he' : ((r : Int) == 255) = false := by simp; omega
      have Hs := Lib.hid (M.cov_no (p := 3) (n := 8) (full := 255) (from_ := from_) (l := l) he)
      have Ih := Lib.hid ih
      have Cg := Lib.hid cg
      have HC := Lib.hid hC
      clear he ih cg hC
      have dl : decide ((0 : Int) < (l : Int) + 1) = true := decide_eq_true (by omega)
      go_enter Tryd.func42, Tryd.ntmps42
      go_wp2_with fail
      clear c3 c7 c4 he'
      go_loopg [10] (8 - from_) (fun g2 i wr => ∃ k : Nat, k + g2 = 8 ∧ i = .int .i64 k ∧ Hid (M.cov 3 8 255 (l + 1) from_ r = M.covL (M.cov 3 8 255 l) 3 r g2 k) ∧ Quiet w wr)
      case atStart => exact ⟨from_, by omega, rfl, Hs, Quiet.refl _⟩
      case round =>
        obtain ⟨k, hk, rfl, Hk, hq⟩ := hrel
        have hCr := HC.out.quiet hq
        obtain ⟨c3, c7, c4, cg⟩ := hCr
        by_cases hlt : k < 8
        · obtain ⟨g2, rfl⟩ : ∃ g2, gk = g2 + 1 := ⟨gk - 1, by omega⟩
          have hck := cg k hlt
          clear cg
          have hrl := (M.rch_lt 3 (by omega) k (by simpa using hlt) 3 (by omega)).1
          simp only [Nat.reducePow] at hrl
          have hbor := M.bor r (M.rch k 3) (by omega) (by omega)
          have hor : r ||| M.rch k 3 < 256 := Nat.or_lt_two_pow (n := 8) (by omega) (by omega)
          have hcall : ∀ m, Calls Tryd.prog 42 #[.int .i64 ((k : Int) + 1), .int .i64 l, .int .i64 (r ||| M.rch k 3 : Nat), .pointer (some ⟨b3, 0, none⟩), .pointer (some ⟨b7, 0, none⟩), .pointer (some ⟨b4, 0, none⟩)] (wr.drewN m) fun e w' => e = .returned (.bool (M.cov 3 8 255 l (k + 1) (r ||| M.rch k 3))) ∧ Quiet (wr.drewN m) w' := fun m =>
            Ih.out (k + 1) _ (wr.drewN m) ((HC.out.quiet hq).quiet ⟨m, rfl⟩) (by omega) hor
          have Hs2 := Lib.hid (show M.covL (M.cov 3 8 255 l) 3 r (g2 + 1) k = (M.cov 3 8 255 l (k + 1) (r ||| M.rch k 3) || M.covL (M.cov 3 8 255 l) 3 r g2 (k + 1)) from rfl)
          have t1 : IntKind.i64.wrap ((k : Int) + 1) = (k : Int) + 1 := by rw [IntKind.wrap_i64]; omega
          have t2 : IntKind.i64.wrap ((l : Int) + 1 - 1) = (l : Int) := by rw [IntKind.wrap_i64]; omega
          have dk : decide ((k : Int) < 8) = true := by simp; omega
          cases hv : M.cov 3 8 255 l (k + 1) (r ||| M.rch k 3) with
          | true =>
            rw [hv] at Hs2 hcall
            go_wp2_with fail
            go_quiet ((go_at_call 42; exact quiet_m (hcall _)))
            go_wp2
            go_ret
            exact ⟨by rw [Hk.out, Hs2.out]; rfl, hq.drewN _⟩
          | false =>
            rw [hv] at Hs2 hcall
            go_wp2_with fail
            go_quiet ((go_at_call 42; exact quiet_m (hcall _)))
            clear t1 t2
            go_wp2
            go_roundg g2
            case measure => omega
            case rel => exact ⟨k + 1, by omega, by go_num, Lib.hid (by rw [Hk.out, Hs2.out, Bool.false_or]), hq.drewN _⟩
        · obtain rfl : k = 8 := by omega
          obtain rfl : gk = 0 := by omega
          clear cg
          go_wp2
          go_ret
          exact ⟨by rw [Hk.out]; rfl, hq⟩

set_option maxHeartbeats 2000000 in
theorem cov4_c (b3 b7 b4 g : Nat) : ∀ (l : Nat) (from_ r : Nat) (w : World), CovAt w b3 b7 b4 g 4 16 → l ≤ 16 → from_ ≤ 16 → r < 65536 →
    Calls Tryd.prog 42 #[.int .i64 (from_ : Nat), .int .i64 (l : Nat), .int .i64 (r : Nat), .pointer (some ⟨b3, 0, none⟩), .pointer (some ⟨b7, 0, none⟩), .pointer (some ⟨b4, 0, none⟩)] w fun e w' => e = .returned (.bool (M.cov 4 16 65535 l from_ r)) ∧ Quiet w w' := by
  intro l
  induction l with
  | zero =>
    intro from_ r w h hl hf hr
    obtain ⟨c3, c7, c4, -⟩ := h
    by_cases he : r = 65535
    · subst he
      have Hs := Lib.hid (M.cov_full (p := 4) (n := 16) (full := 65535) (from_ := from_) 0)
      go_enter Tryd.func42, Tryd.ntmps42
      go_wp2_with fail
      go_ret
      exact ⟨by rw [Hs.out]; rfl, Quiet.refl _⟩
    · have he' : ((r : Int) == 65535) = false := by simp; omega
      have Hs := Lib.hid (M.cov_no0 (p := 4) (n := 16) (full := 65535) (from_ := from_) he)
      clear he
      go_enter Tryd.func42, Tryd.ntmps42
      go_wp2_with fail
      go_loopg [10] 0 (fun _ i wr => i = .int .i64 from_ ∧ wr = w)
      case atStart => exact ⟨rfl, rfl⟩
      case round =>
        obtain ⟨rfl, rfl⟩ := hrel
        go_wp2
        go_ret
        exact ⟨by rw [Hs.out]; rfl, Quiet.refl _⟩
  | succ l ih0 =>
    intro from_ r w h hl hf hr
    have ih := fun (f2 r2 : Nat) (w2 : World) h2 => ih0 f2 r2 w2 h2 (by omega)
    clear ih0
    have hC := h
    obtain ⟨c3, c7, c4, cg⟩ := h
    by_cases he : r = 65535
    · subst he
      have Hs := Lib.hid (M.cov_full (p := 4) (n := 16) (full := 65535) (from_ := from_) (l + 1))
      clear ih
      go_enter Tryd.func42, Tryd.ntmps42
      go_wp2_with fail
      go_ret
      exact ⟨by rw [Hs.out]; rfl, Quiet.refl _⟩
    · have he' : ((r : Int) == 65535) = false := by simp; omega
      have Hs := Lib.hid (M.cov_no (p := 4) (n := 16) (full := 65535) (from_ := from_) (l := l) he)
      have Ih := Lib.hid ih
      have Cg := Lib.hid cg
      have HC := Lib.hid hC
      clear he ih cg hC
      have dl : decide ((0 : Int) < (l : Int) + 1) = true := decide_eq_true (by omega)
      go_enter Tryd.func42, Tryd.ntmps42
      go_wp2_with fail
      clear c3 c7 c4 he'
      go_loopg [10] (16 - from_) (fun g2 i wr => ∃ k : Nat, k + g2 = 16 ∧ i = .int .i64 k ∧ Hid (M.cov 4 16 65535 (l + 1) from_ r = M.covL (M.cov 4 16 65535 l) 4 r g2 k) ∧ Quiet w wr)
      case atStart => exact ⟨from_, by omega, rfl, Hs, Quiet.refl _⟩
      case round =>
        obtain ⟨k, hk, rfl, Hk, hq⟩ := hrel
        have hCr := HC.out.quiet hq
        obtain ⟨c3, c7, c4, cg⟩ := hCr
        by_cases hlt : k < 16
        · obtain ⟨g2, rfl⟩ : ∃ g2, gk = g2 + 1 := ⟨gk - 1, by omega⟩
          have hck := cg k hlt
          clear cg
          have hrl := (M.rch_lt 4 (by omega) k (by simpa using hlt) 4 (by omega)).1
          simp only [Nat.reducePow] at hrl
          have hbor := M.bor r (M.rch k 4) (by omega) (by omega)
          have hor : r ||| M.rch k 4 < 65536 := Nat.or_lt_two_pow (n := 16) (by omega) (by omega)
          have hcall : ∀ m, Calls Tryd.prog 42 #[.int .i64 ((k : Int) + 1), .int .i64 l, .int .i64 (r ||| M.rch k 4 : Nat), .pointer (some ⟨b3, 0, none⟩), .pointer (some ⟨b7, 0, none⟩), .pointer (some ⟨b4, 0, none⟩)] (wr.drewN m) fun e w' => e = .returned (.bool (M.cov 4 16 65535 l (k + 1) (r ||| M.rch k 4))) ∧ Quiet (wr.drewN m) w' := fun m =>
            Ih.out (k + 1) _ (wr.drewN m) ((HC.out.quiet hq).quiet ⟨m, rfl⟩) (by omega) hor
          have Hs2 := Lib.hid (show M.covL (M.cov 4 16 65535 l) 4 r (g2 + 1) k = (M.cov 4 16 65535 l (k + 1) (r ||| M.rch k 4) || M.covL (M.cov 4 16 65535 l) 4 r g2 (k + 1)) from rfl)
          have t1 : IntKind.i64.wrap ((k : Int) + 1) = (k : Int) + 1 := by rw [IntKind.wrap_i64]; omega
          have t2 : IntKind.i64.wrap ((l : Int) + 1 - 1) = (l : Int) := by rw [IntKind.wrap_i64]; omega
          have dk : decide ((k : Int) < 16) = true := by simp; omega
          cases hv : M.cov 4 16 65535 l (k + 1) (r ||| M.rch k 4) with
          | true =>
            rw [hv] at Hs2 hcall
            go_wp2_with fail
            go_quiet ((go_at_call 42; exact quiet_m (hcall _)))
            go_wp2
            go_ret
            exact ⟨by rw [Hk.out, Hs2.out]; rfl, hq.drewN _⟩
          | false =>
            rw [hv] at Hs2 hcall
            go_wp2_with fail
            go_quiet ((go_at_call 42; exact quiet_m (hcall _)))
            clear t1 t2
            go_wp2
            go_roundg g2
            case measure => omega
            case rel => exact ⟨k + 1, by omega, by go_num, Lib.hid (by rw [Hk.out, Hs2.out, Bool.false_or]), hq.drewN _⟩
        · obtain rfl : k = 16 := by omega
          obtain rfl : gk = 0 := by omega
          clear cg
          go_wp2
          go_ret
          exact ⟨by rw [Hk.out]; rfl, hq⟩

end Go.Proofs.YtebjhdipdffkgaaDoor
