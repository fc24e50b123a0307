/- The walk of the choice of a question, number by number: the loop. No condition. -/
import Derived.Test.YtdpbjepjiloeaaaAsk
namespace Go.Proofs.Ytdpbjepjiloeaaa
open Go Go.RowKit
open M (nth)

theorem take_set_succ {x y : List Int} {i : Nat} {v : Int} (h : x.take i = y.take i) (hl : i < x.length) : (x.set i v).take (i + 1) = y.take i ++ [v] := by
  rw [M.take_succ _ i (by simpa using hl), M.nth_set2 _ _ _ _ hl, if_pos rfl, List.take_set_of_le (Nat.le_refl i), h]
theorem anyN_yes {g : Nat → Bool} {c n : Nat} (h : g n = true) : M.anyN g (c + 1) n = true := by simp [M.anyN, h]
theorem anyN_no {g : Nat → Bool} {c n : Nat} (h : g n = false) : M.anyN g (c + 1) n = M.anyN g c (n + 1) := by simp [M.anyN, h]

set_option maxHeartbeats 2000000 in
theorem ask_c (L q p : Nat) (hp : p = q + 1) (hq : p ≤ 9) (hS : SureAt L q) (w : World) (N B : Nat) (A : Option Addr) (c bR : Nat) (row : List Int) (hk : M.knownB row = true) (hL : row.length = L) :
    ∀ (r i : Nat) (x : List Int) (W : World), i + r = L → Asks w N B L A c bR row p W x → (∀ k, k < i → 0 ≤ nth x k ∧ nth x k ≤ nth row k) →
    Calls Try.prog 62 #[.int .i64 (i : Int), .pointer (some ⟨N + 1, 0, none⟩), .pointer (some ⟨N, 0, none⟩), .pointer (some ⟨N + 5, 0, none⟩), .pointer (some ⟨N + 2, 0, none⟩), .pointer (some ⟨N + 6, 0, none⟩)] W
      fun e W' => e = .returned (.bool (M.anyC (askF q row) (row.drop i) (x.take i))) ∧ ∃ x', Asks w N B L A c bR row p W' x' ∧ x'.take i = x.take i := by
  obtain ⟨j1, j2, j3, -⟩ := M.known_parts hk
  intro r
  induction r with
  | zero =>
    intro i x W hi h hb
    obtain rfl : i = L := by omega
    have hxl := h.que.1
    have hx : M.splitB row x = true := M.split_of hk (by omega) fun k hk2 => M.inB_true.2 (hb k (by omega))
    refine (ask_end i q p hp hq hS w N B A c bR row x W h hk hL hx).mono ?_
    rintro e W' ⟨rfl, hA⟩
    have e1 : row.drop i = [] := List.drop_eq_nil_of_le (by omega)
    have e2 : x.take i = x := List.take_of_length_le (by omega)
    rw [e1, e2]
    exact ⟨rfl, x, hA, e2⟩
  | succ r ih =>
    intro i x W hi h hb
    have Ih := Lib.hid ih
    clear ih hS hp
    have hil : i < row.length := by omega
    obtain ⟨i1, hi1⟩ : ∃ i1, i1 = i + 1 := ⟨_, rfl⟩
    have t1 : IntKind.i64.wrap ((i : Int) + 1) = (i1 : Int) := by rw [IntKind.wrap_i64]; omega
    have hrow := j3 i hil
    obtain ⟨a, ha, ha10⟩ : ∃ a : Nat, nth row i = (a : Int) ∧ a ≤ 10 := ⟨(nth row i).toNat, by omega, by omega⟩
    have hdrop : row.drop i = nth row i :: row.drop i1 := by rw [hi1, List.drop_eq_getElem_cons hil, M.nth_lt hil]
    have Hg := Lib.hid (show M.anyC (askF q row) (row.drop i) (x.take i) = M.anyN (fun n => M.anyC (askF q row) (row.drop i1) (x.take i ++ [(n : Int)])) (a + 1) 0 by
      rw [hdrop, ha]; simp only [M.anyC, Int.toNat_natCast])
    generalize hG : (fun n : Nat => M.anyC (askF q row) (row.drop i1) (x.take i ++ [(n : Int)])) = G at Hg
    have HG := Lib.hid (fun n => congrFun hG n)
    have hiL : ((i : Int) == (L : Int)) = false := by simp; omega
    have Hxl := Lib.hid h.que.1
    have hc1 := h.c1
    have Hb := Lib.hid hb
    have Hi1 := Lib.hid hi1
    have Ha := Lib.hid ha
    have Hil := Lib.hid (show i < L by omega)
    clear hdrop hrow hG hb hi1 j3
    go_enter Try.func62, Try.ntmps62
    go_wp2_with fail
    go_loopg [8] (a + 1) (fun gk nv wr => ∃ k : Nat, k + gk = a + 1 ∧ nv = .int .i64 k ∧ (∃ x', Asks w N B L A c bR row p wr x' ∧ x'.take i = x.take i) ∧ M.anyN G (a + 1) 0 = M.anyN G gk k)
    case atStart => exact ⟨0, by omega, rfl, ⟨x, h, rfl⟩, rfl⟩
    case round =>
      obtain ⟨k, hkg, rfl, ⟨x', hA, hx'⟩, hN⟩ := hrel
      clear h hc1
      have HN := Lib.hid hN
      have Hx' := Lib.hid hx'
      clear hN hx'
      have d1 := hA.c1
      have d5 := hA.c5
      obtain ⟨ad, rfl, hadb, hcell⟩ := hA.row.rd.at_ Hil.out
      rw [Ha.out] at hcell
      by_cases hlt : k < a + 1
      · obtain ⟨g1, rfl⟩ : ∃ g1, gk = g1 + 1 := ⟨gk - 1, by omega⟩
        have hqc := hA.que.cell Hil.out
        have hqf := hA.que.free i
        have hA2 := hA.put i (k : Int)
        have hlx := hA.que.1
        have e6 := hA2.c6
        unfold caps at e6
        have Hset := Lib.hid (show (x'.set i (k : Int)).take i1 = x.take i ++ [(k : Int)] by rw [Hi1.out]; exact take_set_succ Hx'.out (by have := Hil.out; omega))
        have Hbb := Lib.hid (show ∀ j, j < i1 → 0 ≤ nth (x'.set i (k : Int)) j ∧ nth (x'.set i (k : Int)) j ≤ nth row j from fun j hj => by
          have hi := Hi1.out
          have hil := Hil.out
          rw [M.nth_set2 _ _ _ _ (by omega)]
          by_cases e : j = i
          · subst e; rw [if_pos rfl, Ha.out]; omega
          · rw [if_neg e]
            have e1 : nth x' j = nth x j := by
              have h1 : nth (x'.take i) j = nth x' j := by simp [nth, show j < i by omega]
              have h2 : nth (x.take i) j = nth x j := by simp [nth, show j < i by omega]
              rw [← h1, Hx'.out, h2]
            rw [e1]
            exact Hb.out j (by omega))
        have Hlx := Lib.hid hlx
        clear hlx
        go_wp2_with fail
        refine (Ih.out i1 (x'.set i (k : Int)) _ (by have := Hi1.out; omega) hA2 Hbb.out).mono ?_
        rintro e w5 ⟨rfl, x5, hA5, hx5⟩
        rw [Hset.out]
        have Hv := Lib.hid (HG.out k)
        have Hx5 := Lib.hid (show x5.take i = x.take i by
          have h1 : (x5.take i1).take i = x5.take i := by rw [List.take_take]; congr 1; have := Hi1.out; omega
          rw [← h1, hx5, Hset.out, List.take_append_of_le_length (by simp; have := Hil.out; have := Hxl.out; omega), List.take_take, Nat.min_self])
        clear hx5 hA2
        cases hv : M.anyC (askF q row) (row.drop i1) (x.take i ++ [(k : Int)]) with
        | true =>
          have Hy := Lib.hid (show M.anyN G (g1 + 1) k = true from anyN_yes (by rw [← Hv.out]; exact hv))
          go_wp2
          go_ret
          exact ⟨by rw [Hg.out, HN.out, Hy.out]; rfl, x5, hA5, Hx5.out⟩
        | false =>
          have Hy := Lib.hid (show M.anyN G (g1 + 1) k = M.anyN G g1 (k + 1) from anyN_no (by rw [← Hv.out]; exact hv))
          go_wp2
          go_roundg g1
          case measure => omega
          case rel => exact ⟨k + 1, by omega, by go_num, ⟨x5, hA5, Hx5.out⟩, HN.out.trans Hy.out⟩
      · obtain rfl : k = a + 1 := by omega
        obtain rfl : gk = 0 := by omega
        go_wp2
        go_ret
        exact ⟨by rw [Hg.out, HN.out]; rfl, x', hA, Hx'.out⟩

end Go.Proofs.Ytdpbjepjiloeaaa
