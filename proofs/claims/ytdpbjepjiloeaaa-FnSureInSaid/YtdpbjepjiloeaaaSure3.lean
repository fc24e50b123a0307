/- Contracts of the program's SureIn and QuestionsFor. No condition. -/
import Derived.Test.YtdpbjepjiloeaaaSure2
import Derived.Test.YtdpbjepjiloeaaaSureS
namespace Go.Proofs.Ytdpbjepjiloeaaa
open Go Go.RowKit
open M (nth)

theorem sure_c (L : Nat) (q : Nat) : q ≤ 9 → SureAt L q := by
  induction q with
  | zero => exact fun _ => sure_zero L
  | succ q ih => exact fun h => sure_succ L q h (ih (by omega))

set_option maxHeartbeats 1000000 in
theorem iSureIn_c (A : Option Addr) (n c bR : Nat) (xs : List Int) (q : Int) (w : World) (h : OwnI w bR A n c xs) :
    Calls Try.prog 26 #[.slice A n c, .int .i64 q] w fun e w' => e = .returned (.bool (M.sureB xs q)) ∧ Below w.heap.size w w' := by
  have hmm := @run_makeMap Try.prog
  go_enter Try.func26, Try.ntmps26
  go_wp2_with fail
  refine (iKnownOk_c A n c xs _ h.rd).mono ?_
  rintro e w1 ⟨rfl, b1⟩
  cases hok : M.knownB xs with
  | false =>
    have Hf := Lib.hid (M.sure_no1 (q := q) hok)
    go_wp2
    go_ret
    exact ⟨rb Hf.out.symm, b1⟩
  | true =>
    go_wp2_with fail
    refine (in_c _ _ _ _).mono ?_
    rintro e w' ⟨rfl, rfl⟩
    cases hin : M.inB q 0 9 with
    | false =>
      have Hf := Lib.hid (M.sure_no2 (xs := xs) hin)
      go_wp2
      go_ret
      exact ⟨rb Hf.out.symm, b1⟩
    | true =>
      have hq := M.inB_true.1 hin
      obtain ⟨k, rfl⟩ := Int.eq_ofNat_of_zero_le hq.1
      have Hf := Lib.hid (M.sure_ok (q := k) hok (by omega))
      have hO := Orc.made w1 n
      have hb2 : Below w1.heap.size w1 (w1.alloc (.map #[] 0)) := (Below.refl _ _).alloc (Nat.le_refl _) _
      have hr2 := (h.below b1).below hb2
      have hs1 := b1.size
      go_wp2_with fail
      refine (sure_c n k (by omega) _ _ A n c bR xs hO hr2 hok h.1).mono ?_
      rintro e w3 ⟨rfl, -, hg3⟩
      have b3 : Below w.heap.size w w3 := (b1.trans (hb2.mono hs1)).grown hg3 (by simp; omega) (fun j hj => by cases hj; exact hs1)
      go_wp2
      go_ret
      exact ⟨rb Hf.out.symm, b3⟩

set_option maxHeartbeats 1000000 in
theorem quest1_c (A : Option Addr) (n c bR : Nat) (xs : List Int) (k Bm Bp B : Nat) (w : World) (h : OwnI w bR A n c xs) (hO : Orc w B n) (hok : M.knownB xs = true) (hk : k < 10) (hm : w.cell? ⟨Bm, 0, none⟩ = some (.map (some B))) (hc : w.cell? ⟨Bp, 0, none⟩ = some (.slice A n c)) :
    Calls Try.prog 53 #[.int .i64 k, .pointer (some ⟨Bm, 0, none⟩), .pointer (some ⟨Bp, 0, none⟩)] w fun e w' => e = .returned (.bool (M.win k xs)) ∧ Orc w' B n ∧ w.grownBy w' (some B) := by
  go_enter Try.func53, Try.ntmps53
  go_wp2_with fail
  refine (sure_c n k (by omega) _ B A n c bR xs hO h hok h.1).mono ?_
  rintro e w3 ⟨rfl, hO3, hg3⟩
  go_wp2
  go_ret
  exact ⟨rfl, hO3, hg3⟩

theorem orc_cell {w w' : World} {B L : Nat} {a : Addr} {v : Value} (h : Orc w B L) (hc : w.cell? a = some v) (hg : w.grownBy w' (some B)) : w'.cell? a = some v := by
  rw [World.cell?_of_block (hg.block a.block (World.block_lt_of_cell? _ _ hc) (fun e => by
    obtain ⟨D, ⟨es, clock, hb, -⟩, -⟩ := h
    have e2 : a.block = B := by simpa using e
    unfold World.cell? at hc
    rw [e2, hb] at hc
    simp at hc))]
  exact hc

set_option maxHeartbeats 1000000 in
theorem fewestQ_c (A : Option Addr) (n c bR : Nat) (xs : List Int) (Bm Bp B : Nat) (w : World) (h : OwnI w bR A n c xs) (hO : Orc w B n) (hm : w.cell? ⟨Bm, 0, none⟩ = some (.map (some B))) (hc : w.cell? ⟨Bp, 0, none⟩ = some (.slice A n c)) :
    Calls Try.prog 35 #[.slice A n c, .func (.func 53) #[] #[.pointer (some ⟨Bm, 0, none⟩), .pointer (some ⟨Bp, 0, none⟩)]] w fun e w' => e = .returned (.int .i64 (M.questF xs)) ∧ w.grownBy w' (some B) := by
  go_enter Try.func35, Try.ntmps35
  go_wp2_with fail
  refine (iKnownOk_c A n c xs _ h.rd).mono ?_
  rintro e w1 ⟨rfl, hb1⟩
  cases hok : M.knownB xs with
  | false =>
    have Hg := Lib.hid (M.quest_no hok)
    go_wp2
    go_ret
    exact ⟨by rw [Hg.out]; rfl, grown_below hb1⟩
  | true =>
    have Hg := Lib.hid (M.quest_ok hok)
    have hO1 := hO.below hb1
    have hg1 : w.grownBy w1 (some B) := grown_below hb1
    go_wp2_with fail
    go_loopg [9] 10 (fun g i wr => ∃ k : Nat, k + g = 10 ∧ i = .int .i64 k ∧ M.questGo xs 10 0 = M.questGo xs g k ∧ Orc wr B n ∧ w.grownBy wr (some B))
    case atStart => exact ⟨0, by omega, rfl, rfl, hO1, hg1⟩
    case round =>
      obtain ⟨k, hk, rfl, hBd, hOr, hgr⟩ := hrel
      have HB := Lib.hid hBd
      clear hBd
      by_cases hlt : k < 10
      · obtain ⟨g, rfl⟩ : ∃ g, gk = g + 1 := ⟨gk - 1, by omega⟩
        have Hy := Lib.hid (M.quest_yes (xs := xs) (g := g) (n := k))
        have Hno := Lib.hid (M.quest_not (xs := xs) (g := g) (n := k))
        have hmr := orc_cell hO hm hgr
        have hcr := orc_cell hO hc hgr
        have hrr := h.kept hgr (orc_ne hO h)
        go_wp2_with fail
        refine (quest1_c A n c bR xs k Bm Bp B _ hrr hOr hok hlt hmr hcr).mono ?_
        rintro e w2 ⟨rfl, hO2, hg2⟩
        have hgg := grown_trans hgr hg2
        cases hv : M.win k xs with
        | true =>
          have Hs := Lib.hid (Hy.out hv)
          go_wp2
          go_ret
          exact ⟨by rw [Hg.out, HB.out, Hs.out]; rfl, hgg⟩
        | false =>
          have Hs := Lib.hid (Hno.out hv)
          go_wp2
          go_roundg g
          case measure => omega
          case rel => exact ⟨k + 1, by omega, by go_num, HB.out.trans Hs.out, hO2, hgg⟩
      · obtain rfl : k = 10 := by omega
        obtain rfl : gk = 0 := by omega
        go_wp2
        go_ret
        exact ⟨by rw [Hg.out, HB.out]; rfl, hgr⟩

set_option maxHeartbeats 1000000 in
theorem iQuestionsFor_c (A : Option Addr) (n c bR : Nat) (xs : List Int) (w : World) (h : OwnI w bR A n c xs) :
    Calls Try.prog 30 #[.slice A n c] w fun e w' => e = .returned (.int .i64 (M.questF xs)) ∧ Below w.heap.size w w' := by
  have hmm := @run_makeMap Try.prog
  have hmf : ∀ (fn : Fn) (first cap : Array Value) (w : World), (Instr.makeFunc fn first cap).run Try.prog w = .ok (.func fn first cap) w := fun _ _ _ _ => rfl
  have hb3 : Below w.heap.size w (((w.alloc (.cells #[.slice A n c] 23)).alloc (.map #[] 0)).alloc (.cells #[.map (some (w.heap.size + 1))] 52)) := (((Below.refl _ _).alloc (Nat.le_refl _) _).alloc (by simp) _).alloc (by simp; omega) _
  have hO3 : Orc (((w.alloc (.cells #[.slice A n c] 23)).alloc (.map #[] 0)).alloc (.cells #[.map (some (w.heap.size + 1))] 52)) (w.heap.size + 1) n := by
    have := Orc.made (w.alloc (.cells #[.slice A n c] 23)) n
    simp only [World.size_alloc] at this
    exact this.below ((Below.refl _ _).alloc (Nat.le_refl _) _)
  have e0 : (((w.alloc (.cells #[.slice A n c] 23)).alloc (.map #[] 0)).alloc (.cells #[.map (some (w.heap.size + 1))] 52)).cell? ⟨w.heap.size, 0, none⟩ = some (.slice A n c) := by
    rw [World.cell?_alloc_past _ _ _ (by simp; omega), World.cell?_alloc_past _ _ _ (by simp), World.cell?_alloc_at _ _ _ _ rfl]; rfl
  have e2 : (((w.alloc (.cells #[.slice A n c] 23)).alloc (.map #[] 0)).alloc (.cells #[.map (some (w.heap.size + 1))] 52)).cell? ⟨w.heap.size + 1 + 1, 0, none⟩ = some (.map (some (w.heap.size + 1))) := by
    rw [World.cell?_alloc_at _ _ _ _ (by simp)]; rfl
  go_enter Try.func30, Try.ntmps30
  go_wp2_with fail
  refine (fewestQ_c A n c bR xs _ _ (w.heap.size + 1) _ (h.below hb3) hO3 e2 e0).mono ?_
  rintro e w4 ⟨rfl, hg4⟩
  have b4 : Below w.heap.size w w4 := hb3.grown hg4 hb3.size (fun j hj => by cases hj; omega)
  go_wp2
  go_ret
  exact ⟨rfl, b4⟩

end Go.Proofs.Ytdpbjepjiloeaaa
