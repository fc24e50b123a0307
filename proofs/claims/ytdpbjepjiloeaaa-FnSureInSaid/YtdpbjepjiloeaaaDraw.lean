/- The draws: the reader of a code, byte by byte. -/
import Derived.Test.YtdpbjepjiloeaaaCom
namespace Go.Proofs.Ytdpbjepjiloeaaa
open Go Go.RowKit
open M (nth)

/-- The slice of address A and length n reads as bytes, all in blocks older than R. -/
structure RdB (w : World) (R : Nat) (A : Option Addr) (n : Nat) : Prop where
  big : n ≤ 9223372036854775807
  cells : 0 < n → ∃ ad, A = some ad ∧ ad.block < R ∧ ∀ k, k < n → ∃ u : Int, 0 ≤ u ∧ u ≤ 255 ∧ w.cell? (ad.add k) = some (.int .u8 u)
/-- Block R is a reader of some bytes, p of them taken. -/
def Rdr (w : World) (R : Nat) (p : Nat) : Prop := ∃ A n c, w.heap[R]? = some (.cells #[.slice A n c, .int .i64 p] 54 (0, 0)) ∧ RdB w R A n

theorem RdB.keep {w w' : World} {R : Nat} {A : Option Addr} {n : Nat} (h : RdB w R A n) (hb : ∀ k, k < R → w'.heap[k]? = w.heap[k]?) : RdB w' R A n :=
  ⟨h.big, fun hn => by
    obtain ⟨ad, e, hlt, hc⟩ := h.cells hn
    refine ⟨ad, e, hlt, fun k hk => ?_⟩
    obtain ⟨u, h0, h1, hu⟩ := hc k hk
    exact ⟨u, h0, h1, (World.cell?_of_block (w := w) (hb _ (by rw [block_of_add]; exact hlt))).trans hu⟩⟩
theorem Rdr.lt {w : World} {R p : Nat} (h : Rdr w R p) : R < w.heap.size := by
  obtain ⟨A, n, c, hb, hr⟩ := h
  exact (Array.getElem?_eq_some_iff.1 hb).1
/-- The reader stays while younger blocks turn. -/
theorem Rdr.keep {w w' : World} {R p B : Nat} (h : Rdr w R p) (hb : Below B w w') (hB : R < B) : Rdr w' R p := by
  obtain ⟨A, n, c, hb', hr⟩ := h
  exact ⟨A, n, c, (hb.block R hB).trans hb', hr.keep fun k hk => hb.block k (by omega)⟩
theorem Rdr.alloc {w : World} {R p : Nat} (h : Rdr w R p) (o : Obj) : Rdr (w.alloc o) R p := h.keep ((Below.refl w.heap.size w).alloc (Nat.le_refl _) o) h.lt

theorem Rdr.step {w : World} {R p : Nat} {A : Option Addr} {n c : Nat} (hb : w.heap[R]? = some (.cells #[.slice A n c, .int .i64 p] 54 (0, 0))) (hr : RdB w R A n) :
    Rdr (w.setCell ⟨R, 1, none⟩ (.int .i64 ((p : Int) + 1))) R (p + 1) ∧ w.grownBy (w.setCell ⟨R, 1, none⟩ (.int .i64 ((p : Int) + 1))) (some R) := by
  have hg : w.grownBy (w.setCell ⟨R, 1, none⟩ (.int .i64 ((p : Int) + 1))) (some R) :=
    ⟨rfl, rfl, rfl, by simp [World.setCell], fun k _ hk => Below.heap_setCell _ _ _ _ (fun e => hk (by simp [e]))⟩
  refine ⟨⟨A, n, c, ?_, hr.keep fun k hk => Below.heap_setCell _ _ _ _ (by show k ≠ R; omega)⟩, hg⟩
  simp [World.setCell, Array.getElem?_modify, hb]

theorem cell_far (w : World) {R : Nat} {ad : Addr} (hne : ad.block < R) (k : Nat) (v : Value) : (w.setCell ⟨R, 1, none⟩ v).cell? (ad.add k) = w.cell? (ad.add k) :=
  World.cell?_setCell_other _ _ _ _ (fun e => by have := block_of_add ad k; rw [← e] at this; simp at this; omega)
theorem wr (x : Int) (h0 : 0 ≤ x) (h1 : x ≤ 4611686018427387904) : IntKind.i64.wrap x = x := by rw [IntKind.wrap_i64]; omega
theorem tmod_nat (a b : Nat) : Int.tmod (a : Int) (b : Int) = ((a % b : Nat) : Int) := by rw [Int.tmod_eq_emod_of_nonneg (by omega)]; rfl
theorem tdiv_nat (a b : Nat) : Int.tdiv (a : Int) (b : Int) = ((a / b : Nat) : Int) := by rw [Int.tdiv_eq_ediv_of_nonneg (by omega)]; rfl

theorem only_drewN {a w : World} {row : Option Nat} (h : a.grownBy w row) (n : Nat) : a.grownBy (w.drewN n) row := ⟨h.os, h.tape, h.output, h.size, h.block⟩
theorem Rdr.quiet {w w' : World} {R p : Nat} (h : Rdr w R p) (hq : Quiet w w') : Rdr w' R p := by
  obtain ⟨m, rfl⟩ := hq
  obtain ⟨A, n, c, hb, hr⟩ := h
  exact ⟨A, n, c, hb, ⟨hr.big, hr.cells⟩⟩

theorem xor_nat (a b : Nat) (ha : a < 9223372036854775808) (hb : b < 9223372036854775808) : bits .xor .i64 (a : Int) (b : Int) = ((a ^^^ b : Nat) : Int) := by
  have hx : a ^^^ b < 2 ^ 63 := Nat.xor_lt_two_pow (by omega) (by omega)
  have conv : ∀ c : Nat, c < 9223372036854775808 → (BitVec.ofInt 64 (c : Int)).toNat = c := fun c hc => by
    rw [BitVec.ofInt_natCast, BitVec.toNat_ofNat]; exact Nat.mod_eq_of_lt (by omega)
  show IntKind.i64.wrap ((BitVec.ofInt 64 (a : Int) ^^^ BitVec.ofInt 64 (b : Int)).toNat : Int) = _
  rw [BitVec.toNat_xor, conv a ha, conv b hb, IntKind.wrap_i64]
  omega
theorem xor_nonneg (x y : Int) (hx : 0 ≤ x) (hx' : x < 9223372036854775808) (hy : 0 ≤ y) (hy' : y < 9223372036854775808) : 0 ≤ bits .xor .i64 x y := by
  obtain ⟨a, rfl⟩ := Int.eq_ofNat_of_zero_le hx
  obtain ⟨b, rfl⟩ := Int.eq_ofNat_of_zero_le hy
  rw [xor_nat a b (by omega) (by omega)]
  omega

set_option maxHeartbeats 400000 in
theorem pick_c (R p : Nat) (m : Int) (w : World) (h : Rdr w R p) (hp : p ≤ 100000) (hm : m ≤ 1000000) :
    Calls Try.prog 52 #[.pointer (some ⟨R, 0, none⟩), .int .i64 m] w fun e w' => (∃ x : Int, e = .returned (.int .i64 x) ∧ 0 ≤ x ∧ (x < m ∨ x = 0)) ∧ Rdr w' R (p + 1) ∧ w.grownBy w' (some R) := by
  obtain ⟨A, n, c, hb, hr⟩ := h
  have c0 : w.cell? ⟨R, 0, none⟩ = some (.slice A n c) := by simp [World.cell?, hb]
  have c1 : w.cell? ⟨R, 1, none⟩ = some (.int .i64 p) := by simp [World.cell?, hb]
  have f1 : w.frozen? ⟨R, 1, none⟩ = false := by simp [World.frozen?, hb]
  have hs := Rdr.step hb hr
  have HS := Lib.hid hs
  clear hs
  have Hb := Lib.hid hb
  clear hb
  have hbig := hr.big
  by_cases hm1 : m < 1
  · go_enter Try.func52, Try.ntmps52
    go_wp2
    go_ret
    exact ⟨⟨0, rfl, Int.le_refl _, .inr rfl⟩, HS.out⟩
  · by_cases hn0 : n = 0
    · subst hn0
      go_enter Try.func52, Try.ntmps52
      go_wp2
      go_ret
      exact ⟨⟨0, rfl, Int.le_refl _, .inr rfl⟩, HS.out⟩
    · have hn0' : ((n : Int) == 0) = false := by simp; omega
      obtain ⟨ad, rfl, hne, hc⟩ := hr.cells (by omega)
      by_cases hpn : p < n
      · obtain ⟨u, hu0, hu1, hu⟩ := hc p hpn
        have hu' : (w.setCell ⟨R, 1, none⟩ (.int .i64 ((p : Int) + 1))).cell? (ad.add p) = some (.int .u8 u) := (cell_far w hne p _).trans hu
        clear hc
        go_enter Try.func52, Try.ntmps52
        go_wp2
        go_ret
        refine ⟨⟨_, rfl, ?_, ?_⟩, HS.out⟩
        · exact Int.emod_nonneg _ (by omega)
        · exact .inl (Int.emod_lt_of_pos _ (by omega))
      · obtain ⟨j1, hj1⟩ : ∃ j, j = p % n := ⟨_, rfl⟩
        obtain ⟨j2, hj2⟩ : ∃ j, j = (p * 7 + 3) % n := ⟨_, rfl⟩
        obtain ⟨q, hq⟩ : ∃ j, j = p / n := ⟨_, rfl⟩
        have b1 : j1 < n := by rw [hj1]; exact Nat.mod_lt _ (by omega)
        have b2 : j2 < n := by rw [hj2]; exact Nat.mod_lt _ (by omega)
        have b3 : q ≤ p := by rw [hq]; exact Nat.div_le_self _ _
        obtain ⟨u, hu0, hu1, hu⟩ := hc j1 b1
        obtain ⟨v, hv0, hv1, hv⟩ := hc j2 b2
        have hu' : (w.setCell ⟨R, 1, none⟩ (.int .i64 ((p : Int) + 1))).cell? (ad.add j1) = some (.int .u8 u) := (cell_far w hne j1 _).trans hu
        have hv' : (w.setCell ⟨R, 1, none⟩ (.int .i64 ((p : Int) + 1))).cell? (ad.add j2) = some (.int .u8 v) := (cell_far w hne j2 _).trans hv
        have e1 : Int.tmod (p : Int) (n : Int) = (j1 : Int) := by rw [tmod_nat, hj1]
        have e2 : Int.tmod ((p : Int) * 7 + 3) (n : Int) = (j2 : Int) := by have := tmod_nat (p * 7 + 3) n; rw [hj2]; exact_mod_cast this
        have e3 : Int.tdiv (p : Int) (n : Int) = (q : Int) := by rw [tdiv_nat, hq]
        have w1 := wr (p * 7) (by omega) (by omega)
        have w2 := wr (p * 7 + 3) (by omega) (by omega)
        have w3 := wr j1 (by omega) (by omega)
        have w4 := wr j2 (by omega) (by omega)
        have w5 := wr u (by omega) (by omega)
        have w6 := wr v (by omega) (by omega)
        have w7 := wr (u * 131) (by omega) (by omega)
        have w8 := wr (v * 1117) (by omega) (by omega)
        have w9 := wr (u * 131 + v * 1117) (by omega) (by omega)
        have w10 := wr (p * 29) (by omega) (by omega)
        have w11 := wr (u * 131 + v * 1117 + p * 29) (by omega) (by omega)
        have w12 := wr q (by omega) (by omega)
        have w13 := wr (q * 53) (by omega) (by omega)
        have w14 := wr (u * 131 + v * 1117 + p * 29 + q * 53) (by omega) (by omega)
        clear hc hu hv hj1 hj2 hq
        go_enter Try.func52, Try.ntmps52
        go_wp2
        go_quiet (fail)
        clear e1 e2 e3 w1 w2 w3 w4 w5 w6 w7 w8 w9 w10 w11 w12 w13 w14
        go_wp2
        go_ret
        refine ⟨⟨_, rfl, ?_, ?_⟩, HS.out.1.quiet ⟨_, rfl⟩, only_drewN HS.out.2 _⟩
        · exact Int.tmod_nonneg _ (xor_nonneg _ _ (by omega) (by omega) (by omega) (by omega))
        · exact .inl (Int.tmod_lt_of_pos _ (by omega))

set_option maxHeartbeats 400000 in
theorem odd_c (R p : Nat) (m : Int) (w : World) (h : Rdr w R p) (hp : p ≤ 100000) (hm0 : 0 < m) (hm : m ≤ 1000000) :
    Calls Try.prog 54 #[.pointer (some ⟨R, 0, none⟩), .int .i64 m] w fun e w' => (∃ x : Bool, e = .returned (.bool x)) ∧ Rdr w' R (p + 1) ∧ w.grownBy w' (some R) := by
  go_enter Try.func54, Try.ntmps54
  go_wp2_with (go_at_call 52; refine (pick_c R p m _ h hp hm).mono ?_; rintro e w' ⟨⟨x, rfl, hx0, hx1⟩, hr, hg⟩)
  go_ret
  exact ⟨⟨_, rfl⟩, hr, hg⟩
theorem Rdr.made {w : World} {A : Option Addr} {n c c' m : Nat} (h : RdY w A n c) (hm : m ≤ n) : Rdr (w.alloc (.cells #[.slice A m c', .int .i64 0] 54)) w.heap.size 0 := by
  refine ⟨A, m, c', heap_alloc_new w _, ⟨by have := h.big; omega, fun hn => ?_⟩⟩
  obtain ⟨ad, e, hlt, hc⟩ := h.cells (by omega)
  refine ⟨ad, e, hlt, fun k hk => ?_⟩
  obtain ⟨u, h0, h1, hu⟩ := hc k (by omega)
  exact ⟨u, h0, h1, (World.cell?_alloc_lt _ _ _ (by rw [block_of_add]; exact hlt)).trans hu⟩
set_option maxHeartbeats 400000 in
theorem l20Open_c (A : Option Addr) (n c : Nat) (w : World) (h : RdY w A n c) :
    Calls Try.prog 34 #[.slice A n c] w fun e w' => e = .returned (.pointer (some ⟨w.heap.size, 0, none⟩)) ∧ Rdr w' w.heap.size 0 ∧ Below w.heap.size w w' := by
  have hbig := h.big
  have hcap := h.cap
  by_cases hn : 2000 < n
  · obtain ⟨ad, rfl, -⟩ := h.cells (by omega)
    go_enter Try.func34, Try.ntmps34
    go_wp2
    go_ret
    exact ⟨rfl, Rdr.made h (by omega), (Below.refl _ _).alloc (Nat.le_refl _) _⟩
  · go_enter Try.func34, Try.ntmps34
    go_wp2
    go_ret
    exact ⟨rfl, Rdr.made h (by omega), (Below.refl _ _).alloc (Nat.le_refl _) _⟩

end Go.Proofs.Ytdpbjepjiloeaaa
