/- The draws of texts: a whole text, and a text with a set. No condition. -/
import Derived.Test.YtbhpponandmgnaaNDraw
namespace Go.Proofs.Ytbhpponandmgnaa
open Go Go.RowKit
open M (nth)

def op5 (x : Nat) : ByteArray := if x = 0 then ⟨#[]⟩ else if x = 1 then ⟨#[53]⟩ else if x = 2 then ⟨#[40]⟩ else if x = 3 then ⟨#[41]⟩ else ⟨#[33]⟩
theorem op5_size (x : Nat) : (op5 x).size ≤ 1 := by unfold op5; (repeat' split) <;> decide
theorem at5 (W : World) (x : Nat) (hx : x < 5) : (W.alloc (.cells #[.string ⟨#[]⟩, .string ⟨#[53]⟩, .string ⟨#[40]⟩, .string ⟨#[41]⟩, .string ⟨#[33]⟩] 9)).cell? ⟨W.heap.size, x, none⟩ = some (.string (op5 x)) := by
  have h := alloc_cells W #[.string ⟨#[]⟩, .string ⟨#[53]⟩, .string ⟨#[40]⟩, .string ⟨#[41]⟩, .string ⟨#[33]⟩] 9 x
  rw [h]
  match x, hx with
  | 0, _ => rfl
  | 1, _ => rfl
  | 2, _ => rfl
  | 3, _ => rfl
  | 4, _ => rfl
theorem keep5 {W W' : World} {R B : Nat} (h : ∀ x, x < 5 → W.cell? ⟨B, x, none⟩ = some (.string (op5 x))) (hg : W.grownBy W' (some R)) (hne : B ≠ R) : ∀ x, x < 5 → W'.cell? ⟨B, x, none⟩ = some (.string (op5 x)) := fun x hx =>
  (World.cell?_of_block (w := W) (hg.block B (World.block_lt_of_cell? _ _ (h x hx)) (fun e => hne (by cases e; rfl)))).trans (h x hx)

/-- Returns a number of people and a text of at most 37 letters; the reader goes on. -/
def Whole (w : World) (R : Nat) (e : Ending) (w' : World) : Prop := (∃ (m : Nat) (s : ByteArray), e = .returned (.tuple #[.int .i64 (m : Int), .string s]) ∧ 1 ≤ m ∧ m ≤ 5 ∧ s.size ≤ 37) ∧ (∃ p', p' ≤ 100 ∧ Rdr w' R p') ∧ w.grownBy w' (some R)

set_option maxHeartbeats 400000 in
theorem l20Text_c (R : Nat) (n : Int) (w : World) (h : Rdr w R 0) (hn0 : 0 < n) (hn1 : n ≤ 1000) :
    Calls Try.prog 23 #[.pointer (some ⟨R, 0, none⟩), .int .i64 n] w (Whole w R) := by
  go_enter Try.func23, Try.ntmps23
  go_wp2_with fail
  refine (pickN R 0 _ _ h (by omega) (by omega) (by omega)).mono ?_
  rintro e w1 ⟨⟨x1, rfl, hx1⟩, hr1, hg1⟩
  obtain ⟨m, hm⟩ : ∃ m : Nat, m = 1 + x1 := ⟨_, rfl⟩
  have e1 : IntKind.i64.wrap (1 + (x1 : Int)) = (m : Int) := by rw [IntKind.wrap_i64]; omega
  have m1 : 1 ≤ m := by omega
  have m5 : m ≤ 5 := by omega
  clear hm
  go_wp2_with fail
  have hc : cap 3 = 37 := rfl
  have hS := l20Saying_c R m (by omega) (by omega) 3 (Nat.le_refl _) 1 w1 hr1 (by rw [hc]; omega)
  rw [hc, show (((3 : Nat)) : Int) = 3 from rfl] at hS
  refine hS.mono ?_
  rintro e w2 ⟨⟨s, rfl, hs1, hs2⟩, ⟨p2, hp2, hr2⟩, hg2⟩
  clear hS
  have hg2 := grown_trans hg1 hg2
  go_wp2_with fail
  refine (odd_c R p2 _ _ hr2 (by omega) (by omega) (by omega)).mono ?_
  rintro e w3 ⟨⟨b, rfl⟩, hr3, hg3⟩
  have hg3 := grown_trans hg2 hg3
  cases b with
  | false =>
    go_wp2
    refine bodyPost_ret (v := .tuple #[_, _]) (by simp [results, Try.results23, go_sem]; exact ⟨rfl, rfl⟩) rfl ?_
    exact ⟨⟨m, s, rfl, by omega, by omega, hs2⟩, ⟨_, by omega, hr3⟩, hg3⟩
  | true =>
    have ls : (s.size : Int) ≤ 37 := by omega
    go_wp2_with fail
    refine (pickN R (p2 + 1) _ _ hr3 (by omega) (by omega) (by omega)).mono ?_
    rintro e w4 ⟨⟨k, rfl, hk⟩, hr4, hg4⟩
    have hg4 := grown_trans hg3 hg4
    have hrD : Rdr w4.drew R (p2 + 1 + 1) := hr4.quiet ⟨1, rfl⟩
    obtain ⟨k1, hk1⟩ : ∃ k1 : Nat, k1 = k + 1 := ⟨_, rfl⟩
    have e2 : IntKind.i64.wrap ((k : Int) + 1) = (k1 : Int) := by rw [IntKind.wrap_i64]; omega
    have t1 : k ≤ s.size := by omega
    have t2 : k1 ≤ s.size := by omega
    have t3 : s.size - k1 + k + 1 = s.size := by omega
    clear hk1
    clear h hr1 hr2 hr3 hr4 hg1 hg2 hg3
    go_wp2_with fail
    refine wp_region_any (by kernel_rfl) ?_
    change wpAny _ _ _ _ _ _ _ (World.drew _)
    have hg := only_drewN hg4 1
    change w.grownBy w4.drew (some R) at hg
    refine wpAny_take (i := 0) (v := ?v1) rfl (by kernel_rfl) (by kernel_rfl) (by kernel_rfl) (fun _ _ _ h => h) (Or.inl ⟨by rfl, ?y1⟩) ?r1
    case y1 => (intro W; go_simp; first | done | with_reducible rfl | rw [if_neg (by ((try simp only [ByteArray.size_append, ByteArray.size_extract]); omega))] | rw [if_pos (by ((try simp only [ByteArray.size_append, ByteArray.size_extract]); omega))])
    case r1 =>
    refine wpAny_take (i := 1) (v := ?v2) rfl (by kernel_rfl) (by kernel_rfl) (by kernel_rfl) (fun _ _ _ h => h) (Or.inl ⟨by rfl, ?y2⟩) ?r2
    case y2 => (intro W; go_simp; first | done | with_reducible rfl | rw [if_neg (by ((try simp only [ByteArray.size_append, ByteArray.size_extract]); omega))] | rw [if_pos (by ((try simp only [ByteArray.size_append, ByteArray.size_extract]); omega))])
    case r2 =>
    refine wpAny_take (i := 2) (v := ?v3) rfl (by kernel_rfl) (by kernel_rfl) (by kernel_rfl) (fun _ _ _ h => h) (Or.inl ⟨by rfl, ?y3⟩) ?r3
    case y3 => (intro W; go_simp; first | done | with_reducible rfl | rw [if_neg (by ((try simp only [ByteArray.size_append, ByteArray.size_extract]); omega))] | rw [if_pos (by ((try simp only [ByteArray.size_append, ByteArray.size_extract]); omega))])
    case r3 =>
    refine wpAny_take (i := 4) (v := ?v4) rfl (by kernel_rfl) (by kernel_rfl) (by kernel_rfl) (fun _ _ _ h => h) (Or.inl ⟨by rfl, ?y4⟩) ?r4
    case y4 => (intro W; go_simp; first | done | with_reducible rfl | rw [if_neg (by ((try simp only [ByteArray.size_append, ByteArray.size_extract]); omega))] | rw [if_pos (by ((try simp only [ByteArray.size_append, ByteArray.size_extract]); omega))])
    case r4 =>
    refine wpAny_take (i := 9) (v := ?v5) rfl (by kernel_rfl) (by kernel_rfl) (by kernel_rfl) (fun _ _ _ h => h) (Or.inl ⟨by rfl, ?y5⟩) ?r5
    case y5 => (intro W; go_simp; first | done | with_reducible rfl | rw [if_neg (by ((try simp only [ByteArray.size_append, ByteArray.size_extract]); omega))] | rw [if_pos (by ((try simp only [ByteArray.size_append, ByteArray.size_extract]); omega))])
    case r5 =>
    refine wpAny_take (i := 10) (v := ?v6) rfl (by kernel_rfl) (by kernel_rfl) (by kernel_rfl) (fun _ _ _ h => h) (Or.inl ⟨by rfl, ?y6⟩) ?r6
    case y6 => (intro W; go_simp; first | done | with_reducible rfl | rw [if_neg (by ((try simp only [ByteArray.size_append, ByteArray.size_extract]); omega))] | rw [if_pos (by ((try simp only [ByteArray.size_append, ByteArray.size_extract]); omega))])
    case r6 =>
    refine wpAny_take (i := 11) (v := ?v7) rfl (by kernel_rfl) (by kernel_rfl) (by kernel_rfl) (fun _ _ _ h => h) (Or.inl ⟨by rfl, ?y7⟩) ?r7
    case y7 => (intro W; go_simp; first | done | with_reducible rfl | rw [if_neg (by ((try simp only [ByteArray.size_append, ByteArray.size_extract]); omega))] | rw [if_pos (by ((try simp only [ByteArray.size_append, ByteArray.size_extract]); omega))])
    case r7 =>
    refine wpAny_take (i := 12) (v := ?v8) rfl (by kernel_rfl) (by kernel_rfl) (by kernel_rfl) (fun _ _ _ h => h) (Or.inl ⟨by rfl, ?y8⟩) ?r8
    case y8 => (intro W; go_simp; first | done | with_reducible rfl | rw [if_neg (by ((try simp only [ByteArray.size_append, ByteArray.size_extract]); omega))] | rw [if_pos (by ((try simp only [ByteArray.size_append, ByteArray.size_extract]); omega))])
    case r8 =>
    refine wpAny_ready (rs := [3, 5]) (by kernel_rfl) (by simp) ?_
    refine AllReady.cons rfl (fun K hK => ?_) ?_
    · go_simp
      refine hK _ _ ?_
      clear hK K
      have rd9 := Rdr.alloc hrD (.cells #[.string ⟨#[]⟩, .string ⟨#[53]⟩, .string ⟨#[40]⟩, .string ⟨#[41]⟩, .string ⟨#[33]⟩] 9)
      have gr9 := grown_trans hg (World.grownBy_alloc _ (.cells #[.string ⟨#[]⟩, .string ⟨#[53]⟩, .string ⟨#[40]⟩, .string ⟨#[41]⟩, .string ⟨#[33]⟩] 9) (some R))
      have hk9 : ∀ x, x < 5 → (World.alloc w4.drew (.cells #[.string ⟨#[]⟩, .string ⟨#[53]⟩, .string ⟨#[40]⟩, .string ⟨#[41]⟩, .string ⟨#[33]⟩] 9)).cell? ⟨w4.heap.size, x, none⟩ = some (.string (op5 x)) := at5 w4.drew
      have hn9 := ne_size hrD
      refine wpAny_ready (rs := [5]) (by kernel_rfl) (by simp) ?_
      refine AllReady.cons rfl (fun K hK => ?_) ?_
      · go_simp
        refine (pickN R _ _ _ rd9 (by omega) (by omega) (by omega)).mono ?_
        rintro e W10 ⟨⟨x, rfl, hx⟩, rd10, hgr10⟩
        have hx5 : x < 5 := (by omega)
        clear hx
        have ho := op5_size x
        dsimp only
        refine hK _ _ ?_
        clear hK K
        have gr10 := grown_trans gr9 hgr10
        have hk10 := keep5 hk9 hgr10 hn9
        refine wpAny_take (i := 6) (v := ?v11) rfl (by kernel_rfl) (by kernel_rfl) (by kernel_rfl) (fun _ _ _ h => h) (Or.inl ⟨by rfl, ?y11⟩) ?r11
        case y11 => (intro W; go_simp; first | done | with_reducible rfl | rw [if_neg (by ((try simp only [ByteArray.size_append, ByteArray.size_extract]); omega))] | rw [if_pos (by ((try simp only [ByteArray.size_append, ByteArray.size_extract]); omega))])
        case r11 =>
        refine wpAny_ready (rs := [7]) (by kernel_rfl) (by simp) ?_
        refine AllReady.cons rfl (fun K hK => ?_) ?_
        · go_simp
          refine hK _ _ ?_
          clear hK K
          refine wpAny_take (i := 8) (v := ?v13) rfl (by kernel_rfl) (by kernel_rfl) (by kernel_rfl) (fun _ _ _ h => h) (Or.inl ⟨by rfl, ?y13⟩) ?r13
          case y13 => (intro W; go_simp; first | done | with_reducible rfl | rw [if_neg (by ((try simp only [ByteArray.size_append, ByteArray.size_extract]); omega))] | rw [if_pos (by ((try simp only [ByteArray.size_append, ByteArray.size_extract]); omega))])
          case r13 =>
          refine wpAny_take (i := 13) (v := ?v14) rfl (by kernel_rfl) (by kernel_rfl) (by kernel_rfl) (fun _ _ _ h => h) (Or.inl ⟨by rfl, ?y14⟩) ?r14
          case y14 => (intro W; go_simp; first | done | with_reducible rfl | rw [if_neg (by ((try simp only [ByteArray.size_append, ByteArray.size_extract]); omega))] | rw [if_pos (by ((try simp only [ByteArray.size_append, ByteArray.size_extract]); omega))])
          case r14 =>
          refine wpAny_take (i := 14) (v := ?v15) rfl (by kernel_rfl) (by kernel_rfl) (by kernel_rfl) (fun _ _ _ h => h) (Or.inl ⟨by rfl, ?y15⟩) ?r15
          case y15 => (intro W; go_simp; first | done | with_reducible rfl | rw [if_neg (by ((try simp only [ByteArray.size_append, ByteArray.size_extract]); omega))] | rw [if_pos (by ((try simp only [ByteArray.size_append, ByteArray.size_extract]); omega))])
          case r15 =>
          refine wpAny_done (by kernel_rfl) ?_ _
          go_wp2
          refine bodyPost_ret (v := .tuple #[_, _]) (by simp [results, Try.results23, go_sem]; exact ⟨rfl, rfl⟩) rfl ?_
          exact ⟨⟨m, _, rfl, by omega, by omega, by ((try simp only [ByteArray.size_append, ByteArray.size_extract]); omega)⟩, ⟨_, by omega, rd10⟩, gr10⟩
        exact AllReady.nil
      exact AllReady.nil
    refine AllReady.cons rfl (fun K hK => ?_) ?_
    · go_simp
      refine (pickN R _ _ _ hrD (by omega) (by omega) (by omega)).mono ?_
      rintro e W16 ⟨⟨x, rfl, hx⟩, rd16, hgr16⟩
      have hx5 : x < 5 := (by omega)
      clear hx
      have ho := op5_size x
      dsimp only
      refine hK _ _ ?_
      clear hK K
      have gr16 := grown_trans hg hgr16
      refine wpAny_ready (rs := [3]) (by kernel_rfl) (by simp) ?_
      refine AllReady.cons rfl (fun K hK => ?_) ?_
      · go_simp
        refine hK _ _ ?_
        clear hK K
        have rd17 := Rdr.alloc rd16 (.cells #[.string ⟨#[]⟩, .string ⟨#[53]⟩, .string ⟨#[40]⟩, .string ⟨#[41]⟩, .string ⟨#[33]⟩] 9)
        have gr17 := grown_trans gr16 (World.grownBy_alloc _ (.cells #[.string ⟨#[]⟩, .string ⟨#[53]⟩, .string ⟨#[40]⟩, .string ⟨#[41]⟩, .string ⟨#[33]⟩] 9) (some R))
        have hk17 : ∀ x, x < 5 → (World.alloc W16 (.cells #[.string ⟨#[]⟩, .string ⟨#[53]⟩, .string ⟨#[40]⟩, .string ⟨#[41]⟩, .string ⟨#[33]⟩] 9)).cell? ⟨W16.heap.size, x, none⟩ = some (.string (op5 x)) := at5 W16
        have hn17 := ne_size rd16
        refine wpAny_take (i := 6) (v := ?v18) rfl (by kernel_rfl) (by kernel_rfl) (by kernel_rfl) (fun _ _ _ h => h) (Or.inl ⟨by rfl, ?y18⟩) ?r18
        case y18 => (intro W; go_simp; first | done | with_reducible rfl | rw [if_neg (by ((try simp only [ByteArray.size_append, ByteArray.size_extract]); omega))] | rw [if_pos (by ((try simp only [ByteArray.size_append, ByteArray.size_extract]); omega))])
        case r18 =>
        refine wpAny_ready (rs := [7]) (by kernel_rfl) (by simp) ?_
        refine AllReady.cons rfl (fun K hK => ?_) ?_
        · go_simp
          refine hK _ _ ?_
          clear hK K
          refine wpAny_take (i := 8) (v := ?v20) rfl (by kernel_rfl) (by kernel_rfl) (by kernel_rfl) (fun _ _ _ h => h) (Or.inl ⟨by rfl, ?y20⟩) ?r20
          case y20 => (intro W; go_simp; first | done | with_reducible rfl | rw [if_neg (by ((try simp only [ByteArray.size_append, ByteArray.size_extract]); omega))] | rw [if_pos (by ((try simp only [ByteArray.size_append, ByteArray.size_extract]); omega))])
          case r20 =>
          refine wpAny_take (i := 13) (v := ?v21) rfl (by kernel_rfl) (by kernel_rfl) (by kernel_rfl) (fun _ _ _ h => h) (Or.inl ⟨by rfl, ?y21⟩) ?r21
          case y21 => (intro W; go_simp; first | done | with_reducible rfl | rw [if_neg (by ((try simp only [ByteArray.size_append, ByteArray.size_extract]); omega))] | rw [if_pos (by ((try simp only [ByteArray.size_append, ByteArray.size_extract]); omega))])
          case r21 =>
          refine wpAny_take (i := 14) (v := ?v22) rfl (by kernel_rfl) (by kernel_rfl) (by kernel_rfl) (fun _ _ _ h => h) (Or.inl ⟨by rfl, ?y22⟩) ?r22
          case y22 => (intro W; go_simp; first | done | with_reducible rfl | rw [if_neg (by ((try simp only [ByteArray.size_append, ByteArray.size_extract]); omega))] | rw [if_pos (by ((try simp only [ByteArray.size_append, ByteArray.size_extract]); omega))])
          case r22 =>
          refine wpAny_done (by kernel_rfl) ?_ _
          go_wp2
          refine bodyPost_ret (v := .tuple #[_, _]) (by simp [results, Try.results23, go_sem]; exact ⟨rfl, rfl⟩) rfl ?_
          exact ⟨⟨m, _, rfl, by omega, by omega, by ((try simp only [ByteArray.size_append, ByteArray.size_extract]); omega)⟩, ⟨_, by omega, rd17⟩, gr17⟩
        exact AllReady.nil
      exact AllReady.nil
    exact AllReady.nil

end Go.Proofs.Ytbhpponandmgnaa
