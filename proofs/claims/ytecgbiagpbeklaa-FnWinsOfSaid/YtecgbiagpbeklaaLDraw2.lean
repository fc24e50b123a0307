/- The draw of a guess. -/
import Derived.Test.YtecgbiagpbeklaaSGuess
import Derived.Test.YtecgbiagpbeklaaLM3
import Derived.Test.YtecgbiagpbeklaaLostL1
import Derived.Deep.RegionWith
namespace Go.Proofs.Ytecgbiagpbeklaa
open Go Go.RowKit
open M (nth)

theorem M.wrap64_eq (x : Int) : wrap64 x = IntKind.i64.wrap x := by rw [IntKind.wrap_i64, wrap64]

theorem four_picks {w w2 a b c d : World} {R B n cp : Nat} {A : Option Addr} {xs : List Int} {C : Prop} (hb : Below R w w2) (ho : OwnI w2 B A n cp xs) (hB : R < B)
    (g1 : w2.drew.grownBy a (some R)) (g2 : a.grownBy b (some R)) (g3 : b.grownBy c (some R)) (g4 : c.grownBy d (some R)) (h : OwnI d B A n cp xs → Below R w d → C) (hl : R ≤ w2.heap.size := by first | assumption | omega) : C :=
  h (((((ho.drew).kept g1 (ho.ne_block hB)).kept g2 (ho.ne_block hB)).kept g3 (ho.ne_block hB)).kept g4 (ho.ne_block hB))
    ((((hb.drew.grown g1 hl (fun k e => by cases e; exact Nat.le_refl _)).grown g2 (Nat.le_trans hl g1.size) (fun k e => by cases e; exact Nat.le_refl _)).grown g3 (Nat.le_trans hl (Nat.le_trans g1.size g2.size)) (fun k e => by cases e; exact Nat.le_refl _)).grown g4 (Nat.le_trans hl (Nat.le_trans g1.size (Nat.le_trans g2.size g3.size))) (fun k e => by cases e; exact Nat.le_refl _))

set_option maxHeartbeats 1000000 in
theorem DrawGuessOf_c (A : Option Addr) (n c : Nat) (w : World) (h : RdY w A n c) : Calls Try.prog 22 #[.slice A n c] w fun e w' => (∃ (pp : Int) (A : Option Addr) (n c : Nat) (xs : List Int) (x k : Int), e = .returned (.tuple #[.int .i64 pp, .slice A n c, .int .i64 x, .int .i64 k]) ∧ n ≤ 200 ∧ OwnI w' w.heap.size A n c xs) ∧ Below w.heap.size w w' := by
  go_enter Try.func22, Try.ntmps22
  go_wp2_with fail
  refine (l20Open_c A n c _ h).mono ?_
  rintro e w1 ⟨rfl, hr, hb⟩
  have hlt := hr.lt
  go_wp2_with fail
  refine (l20Lost_c w.heap.size 0 _ _ hr (by omega) (by omega) (by omega)).mono ?_
  rintro e w2 ⟨⟨pp, A2, n2, c2, xs, p', rfl, h0, h1, h2, ho, hr2, hp'⟩, hg⟩
  have hb2 := hb.grown hg hb.size (fun k e => by cases e; exact Nat.le_refl _)
  have ho2 := ho.mono (Nat.succ_le_of_lt hlt)
  have hl2 : w.heap.size ≤ w2.heap.size := hb2.size
  clear hg ho
  have hr2 : Rdr w2.drew w.heap.size p' := hr2.quiet ⟨1, rfl⟩
  obtain ⟨m, rfl⟩ : ∃ m : Nat, pp = (m : Int) := ⟨pp.toNat, by omega⟩
  go_wp2_with fail
  obtain ⟨d, e1, hd⟩ : ∃ d : Int, IntKind.i64.wrap ((2 : Int) ^ (min (m : Int) 7).toNat) = d ∧ ¬ d = 0 := by
    refine ⟨2 ^ (min (m : Int) 7).toNat, ?_, ?_⟩
    · have := M.wrap_pow (min (m : Int) 7).toNat (by omega)
      rwa [M.wrap64_eq] at this
    · have := M.two_pow_pos (min (m : Int) 7).toNat
      omega
  have e3 : IntKind.i64.wrap ((m : Int) + 1) = m + 1 := by rw [IntKind.wrap_i64]; omega
  go_region_with (go_at_call 48; refine (pick_c w.heap.size _ _ _ (by assumption) (by omega) (by omega)).mono ?_; rintro e w' ⟨⟨x, rfl, -, -⟩, hrd, hgr⟩)
  all_goals
    refine four_picks (R := w.heap.size) hb2 ho2 (by omega) (by assumption) (by assumption) (by assumption) (by assumption) ?_
    intro ho5 hb5
    go_wp2
    refine bodyPost_ret (v := .tuple #[_, _, _, _]) (by simp [results, Try.results22, go_sem]; exact ⟨rfl, rfl, rfl, rfl⟩) rfl ?_
    exact ⟨⟨_, A2, n2, c2, xs, _, _, rfl, h2, ho5.mono (Nat.le_succ _)⟩, hb5⟩

end Go.Proofs.Ytecgbiagpbeklaa
