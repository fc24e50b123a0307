/- The draws of texts: that they end, and how long the texts are at most. No condition. -/
import Derived.Test.YtbhpponandmgnaaDraw
import Derived.Test.YtbhpponandmgnaaSay
import Derived.Laws.IdiomStrings
import Derived.Deep.RegionWith
namespace Go.Proofs.Ytbhpponandmgnaa
open Go Go.RowKit
open M (nth)

theorem below_row {w w1 w2 : World} {R : Nat} (h : Below R w w1) (hg : w1.grownBy w2 (some R)) (hR : R ≤ w1.heap.size) : Below R w w2 := h.grown hg hR (fun k e => by cases e; exact Nat.le_refl _)

/-- The conversion of one fresh byte to a text. -/
theorem byte_text (x : Nat) (w : World) (hx : x < 10) : (convert 23 9 (.slice (some ⟨w.heap.size, 0, none⟩) 1 1)).run Try.prog (w.alloc (.cells #[.int .u8 (48 + (x : Int))] 5)) = .ok (.string ⟨#[UInt8.ofNat (48 + x)]⟩) (w.alloc (.cells #[.int .u8 (48 + (x : Int))] 5)) := by
  refine run_convert_bytes_back (P := Try.prog) _ 23 9 5 ⟨w.heap.size, 0, none⟩ 1 [UInt8.ofNat (48 + x)] Try.underlying23 Try.underlying5 Try.underlying9 (fun j hj => ?_)
  have : j = 0 := by simp at hj; exact hj
  subst this
  have e : (((UInt8.ofNat (48 + x)).toNat : Nat) : Int) = 48 + (x : Int) := by
    have : (UInt8.ofNat (48 + x)).toNat = 48 + x := by simp [UInt8.toNat_ofNat']; omega
    rw [this]; push_cast; rfl
  show (w.alloc (.cells #[.int .u8 (48 + (x : Int))] 5)).cell? ((⟨w.heap.size, 0, none⟩ : Addr).add 0) = some (.int .u8 (((UInt8.ofNat (48 + x)).toNat : Nat) : Int))
  rw [e]
  exact cell_one_new w (.int .u8 (48 + (x : Int))) 5 0 _ rfl

set_option maxHeartbeats 1000000 in
theorem l1Number_c (x : Nat) (w : World) (hx : x < 10) : Calls Try.prog 44 #[.int .i64 x] w fun e w' => (∃ s : ByteArray, e = .returned (.string s) ∧ s.size = 1) ∧ w' = w.alloc (.cells #[.int .u8 (48 + (x : Int))] 5) := by
  have hc := byte_text x w hx
  have d1 : ((x : Int) < 0) = False := by simp
  have d2 : ((x : Int) < 10) = True := by simp; omega
  have w1 : IntKind.i64.wrap (48 + (x : Int)) = 48 + x := by rw [IntKind.wrap_i64]; omega
  have w2 : IntKind.u8.wrap (48 + (x : Int)) = 48 + x := by show (48 + (x : Int)) % 256 = _; omega
  go_enter Try.func44, Try.ntmps44
  go_wp2
  go_ret
  exact ⟨⟨_, rfl, rfl⟩, rfl⟩

/-- The bound on a text's length, and on the bytes that a text takes. -/
def cap : Nat → Nat
  | 0 => 2
  | d + 1 => 2 * cap d + 3
/-- Returns a text of at most so many letters; the reader goes on by as many bytes at most. -/
def Text (w : World) (R p N : Nat) (e : Ending) (w' : World) : Prop := (∃ s : ByteArray, e = .returned (.string s) ∧ 1 ≤ s.size ∧ s.size ≤ N) ∧ (∃ p', p' ≤ p + N ∧ Rdr w' R p') ∧ w.grownBy w' (some R)

theorem pickN (R p : Nat) (m : Int) (w : World) (h : Rdr w R p) (hp : p ≤ 100000) (hm0 : 0 < m) (hm : m ≤ 1000000) :
    Calls Try.prog 27 #[.pointer (some ⟨R, 0, none⟩), .int .i64 m] w fun e w' => (∃ x : Nat, e = .returned (.int .i64 (x : Int)) ∧ (x : Int) < m) ∧ Rdr w' R (p + 1) ∧ w.grownBy w' (some R) :=
  (pick_c R p m w h hp hm).mono fun e w' ⟨⟨x, e1, h0, h1⟩, h2⟩ => ⟨⟨x.toNat, by rw [e1, Int.toNat_of_nonneg h0], by omega⟩, h2⟩

def op3 (x : Nat) : ByteArray := if x = 0 then ⟨#[38]⟩ else if x = 1 then ⟨#[124]⟩ else ⟨#[61]⟩
theorem op3_size (x : Nat) : (op3 x).size = 1 := by unfold op3; (repeat' split) <;> rfl
theorem alloc_cells (W : World) (cs : Array Value) (t : TypeId) (x : Nat) : (W.alloc (.cells cs t)).cell? ⟨W.heap.size, x, none⟩ = cs[x]? := by
  unfold World.cell?
  simp only [heap_alloc_new]
  exact if_neg (by simp)
theorem at3 (W : World) (x : Nat) (hx : x < 3) : (W.alloc (.cells #[.string ⟨#[38]⟩, .string ⟨#[124]⟩, .string ⟨#[61]⟩] 9)).cell? ⟨W.heap.size, x, none⟩ = some (.string (op3 x)) := by
  have h := alloc_cells W #[.string ⟨#[38]⟩, .string ⟨#[124]⟩, .string ⟨#[61]⟩] 9 x
  rw [h]
  match x, hx with
  | 0, _ => rfl
  | 1, _ => rfl
  | 2, _ => rfl
theorem keep3 {W W' : World} {R B : Nat} (h : ∀ x, x < 3 → W.cell? ⟨B, x, none⟩ = some (.string (op3 x))) (hg : W.grownBy W' (some R)) (hne : B ≠ R) : ∀ x, x < 3 → W'.cell? ⟨B, x, none⟩ = some (.string (op3 x)) := fun x hx =>
  (World.cell?_of_block (w := W) (hg.block B (World.block_lt_of_cell? _ _ (h x hx)) (fun e => hne (by cases e; rfl)))).trans (h x hx)
theorem ne_size {W : World} {R q : Nat} (hr : Rdr W R q) : W.heap.size ≠ R := fun e => by have := hr.lt; omega
theorem new3 {W W' : World} {R q : Nat} (hr : Rdr W R q) (hg : (W.alloc (.cells #[.string ⟨#[38]⟩, .string ⟨#[124]⟩, .string ⟨#[61]⟩] 9)).grownBy W' (some R)) : (∀ x, x < 3 → W'.cell? ⟨W.heap.size, x, none⟩ = some (.string (op3 x))) ∧ W.heap.size ≠ R :=
  have hn : W.heap.size ≠ R := fun e => by have := hr.lt; omega
  ⟨keep3 (at3 W) hg hn, hn⟩
set_option maxHeartbeats 4000000 in
theorem l20Saying_c (R m : Nat) (hm1 : 1 ≤ m) (hm : m ≤ 5) (d : Nat) : ∀ (_ : d ≤ 3) (p : Nat) (w : World), Rdr w R p → p + cap d ≤ 2000 →
    Calls Try.prog 35 #[.pointer (some ⟨R, 0, none⟩), .int .i64 (m : Int), .int .i64 (d : Int)] w (Text w R p (cap d)) := by
  have e3 : IntKind.i64.wrap ((m : Int) + 1) = (m : Int) + 1 := by rw [IntKind.wrap_i64]; omega
  have z1 : (ByteArray.mk #[35]).size = 1 := rfl
  have z2 : (ByteArray.mk #[33]).size = 1 := rfl
  have z3 : (ByteArray.mk #[40]).size = 1 := rfl
  have z4 : (ByteArray.mk #[41]).size = 1 := rfl
  induction d with
  | zero =>
    intro _ p w h hp
    have hcap : cap 0 = 2 := rfl
    generalize cap 0 = C at *
    go_enter Try.func35, Try.ntmps35
    go_wp2_with fail
    refine (pickN R (p) _ _ h (by omega) (by omega) (by omega)).mono ?_
    rintro e u1 ⟨⟨y1, rfl, hy1⟩, hs1, hq1⟩
    by_cases hy : y1 = 0
    · have g1 : ((y1 : Int) == 0) = true := by simp; omega
      go_wp2_with fail
      refine (pickN R (p + 1) _ _ hs1 (by omega) (by omega) (by omega)).mono ?_
      rintro e u2 ⟨⟨y2, rfl, hy2⟩, hs2, hq2⟩
      go_wp2_with fail
      refine (l1Number_c y2 _ (by omega)).mono ?_
      rintro e u3 ⟨⟨s, rfl, hs⟩, rfl⟩
      go_wp2
      go_ret
      exact ⟨⟨_, rfl, by (try rw [ByteArray.size_append]); omega, by (try rw [ByteArray.size_append]); omega⟩, ⟨p + 1 + 1, by omega, hs2.alloc _⟩, (grown_trans hq1 (grown_trans hq2 (World.grownBy_alloc _ _ _)))⟩
    · have g1 : ((y1 : Int) == 0) = false := by simp; omega
      go_wp2_with fail
      refine (pickN R (p + 1) _ _ hs1 (by omega) (by omega) (by omega)).mono ?_
      rintro e u2 ⟨⟨y2, rfl, hy2⟩, hs2, hq2⟩
      go_wp2_with fail
      refine (l1Number_c y2 _ (by omega)).mono ?_
      rintro e u3 ⟨⟨s, rfl, hs⟩, rfl⟩
      go_wp2
      go_ret
      exact ⟨⟨_, rfl, by (try rw [ByteArray.size_append]); omega, by (try rw [ByteArray.size_append]); omega⟩, ⟨p + 1 + 1, by omega, hs2.alloc _⟩, (grown_trans hq1 (grown_trans hq2 (World.grownBy_alloc _ _ _)))⟩
  | succ d ih =>
    intro hd p w h hp
    have hI := Lib.hid (ih (by omega))
    clear ih
    have hcap : cap (d + 1) = 2 * cap d + 3 := rfl
    have hc2 : 2 ≤ cap d := by cases d with | zero => exact Nat.le_refl _ | succ d => show 2 ≤ 2 * cap d + 3; omega
    have hc17 : cap d ≤ 17 := by match d, hd with | 0, _ => decide | 1, _ => decide | 2, _ => decide
    obtain ⟨D, hD⟩ : ∃ D : Int, D = ((d + 1 : Nat) : Int) := ⟨_, rfl⟩
    rw [← hD]
    have e1 : (D == 0) = false := by simp; omega
    have e2 : IntKind.i64.wrap (D - 1) = (d : Int) := by rw [IntKind.wrap_i64]; omega
    generalize cap (d + 1) = C at *
    generalize cap d = c at *
    clear hD
    go_enter Try.func35, Try.ntmps35
    go_wp2_with fail
    refine (pickN R p _ _ h (by omega) (by omega) (by omega)).mono ?_
    rintro e w1 ⟨⟨x1, rfl, hx1⟩, hr1, hg1⟩
    by_cases hx : x1 = 0
    · have f1 : ((x1 : Int) == 0) = true := by simp; omega
      go_wp2_with fail
      refine (pickN R (p + 1) _ _ hr1 (by omega) (by omega) (by omega)).mono ?_
      rintro e u1 ⟨⟨y1, rfl, hy1⟩, hs1, hq1⟩
      by_cases hy : y1 = 0
      · have g1 : ((y1 : Int) == 0) = true := by simp; omega
        go_wp2_with fail
        refine (pickN R (p + 1 + 1) _ _ hs1 (by omega) (by omega) (by omega)).mono ?_
        rintro e u2 ⟨⟨y2, rfl, hy2⟩, hs2, hq2⟩
        go_wp2_with fail
        refine (l1Number_c y2 _ (by omega)).mono ?_
        rintro e u3 ⟨⟨s, rfl, hs⟩, rfl⟩
        go_wp2
        go_ret
        exact ⟨⟨_, rfl, by (try rw [ByteArray.size_append]); omega, by (try rw [ByteArray.size_append]); omega⟩, ⟨p + 1 + 1 + 1, by omega, hs2.alloc _⟩, grown_trans hg1 (grown_trans hq1 (grown_trans hq2 (World.grownBy_alloc _ _ _)))⟩
      · have g1 : ((y1 : Int) == 0) = false := by simp; omega
        go_wp2_with fail
        refine (pickN R (p + 1 + 1) _ _ hs1 (by omega) (by omega) (by omega)).mono ?_
        rintro e u2 ⟨⟨y2, rfl, hy2⟩, hs2, hq2⟩
        go_wp2_with fail
        refine (l1Number_c y2 _ (by omega)).mono ?_
        rintro e u3 ⟨⟨s, rfl, hs⟩, rfl⟩
        go_wp2
        go_ret
        exact ⟨⟨_, rfl, by (try rw [ByteArray.size_append]); omega, by (try rw [ByteArray.size_append]); omega⟩, ⟨p + 1 + 1 + 1, by omega, hs2.alloc _⟩, grown_trans hg1 (grown_trans hq1 (grown_trans hq2 (World.grownBy_alloc _ _ _)))⟩
    · have f1 : ((x1 : Int) == 0) = false := by simp; omega
      go_wp2_with fail
      refine (pickN R (p + 1) _ _ hr1 (by omega) (by omega) (by omega)).mono ?_
      rintro e w2 ⟨⟨x2, rfl, hx2⟩, hr2, hg2⟩
      have hg := grown_trans hg1 hg2
      by_cases hy : x2 = 0
      · have f2 : ((x2 : Int) == 0) = true := by simp; omega
        go_wp2_with fail
        refine (hI.out (p + 1 + 1) _ hr2 (by omega)).mono ?_
        rintro e w3 ⟨⟨s, rfl, hs1, hs2⟩, ⟨p', hp', hr3⟩, hg3⟩
        go_wp2
        go_ret
        exact ⟨⟨_, rfl, by rw [ByteArray.size_append]; omega, by rw [ByteArray.size_append]; show 1 + _ ≤ _; omega⟩, ⟨p', by omega, hr3⟩, grown_trans hg hg3⟩
      · have f2 : ((x2 : Int) == 0) = false := by simp; omega
        clear hx hy hx1 hx2 hg1 hg2 f1 hr1 h
        have hrD : Rdr w2.drew R (p + 1 + 1) := hr2.quiet ⟨1, rfl⟩
        clear hr2
        go_wp2_with fail
        refine wp_region_any (by kernel_rfl) ?_
        change wpAny _ _ _ _ _ _ _ (World.drew _)
        have hg := only_drewN hg 1
        change w.grownBy w2.drew (some R) at hg
        refine wpAny_take (i := 0) (v := ?v1) rfl (by kernel_rfl) (by kernel_rfl) (by kernel_rfl) (fun _ _ _ h => h) (Or.inl ⟨by rfl, ?y1⟩) ?r1
        case y1 => (intro W; go_simp; first | done | with_reducible rfl | rw [if_neg (by omega)] | rw [if_pos (by omega)])
        case r1 =>
        refine wpAny_take (i := 1) (v := ?v2) rfl (by kernel_rfl) (by kernel_rfl) (by kernel_rfl) (fun _ _ _ h => h) (Or.inl ⟨by rfl, ?y2⟩) ?r2
        case y2 => (intro W; go_simp; first | done | with_reducible rfl | rw [if_neg (by omega)] | rw [if_pos (by omega)])
        case r2 =>
        refine wpAny_take (i := 2) (v := ?v3) rfl (by kernel_rfl) (by kernel_rfl) (by kernel_rfl) (fun _ _ _ h => h) (Or.inl ⟨by rfl, ?y3⟩) ?r3
        case y3 => (intro W; go_simp; first | done | with_reducible rfl | rw [if_neg (by omega)] | rw [if_pos (by omega)])
        case r3 =>
        refine wpAny_take (i := 3) (v := ?v4) rfl (by kernel_rfl) (by kernel_rfl) (by kernel_rfl) (fun _ _ _ h => h) (Or.inl ⟨by rfl, ?y4⟩) ?r4
        case y4 => (intro W; go_simp; first | done | with_reducible rfl | rw [if_neg (by omega)] | rw [if_pos (by omega)])
        case r4 =>
        refine wpAny_take (i := 7) (v := ?v5) rfl (by kernel_rfl) (by kernel_rfl) (by kernel_rfl) (fun _ _ _ h => h) (Or.inl ⟨by rfl, ?y5⟩) ?r5
        case y5 => (intro W; go_simp; first | done | with_reducible rfl | rw [if_neg (by omega)] | rw [if_pos (by omega)])
        case r5 =>
        refine wpAny_take (i := 12) (v := ?v6) rfl (by kernel_rfl) (by kernel_rfl) (by kernel_rfl) (fun _ _ _ h => h) (Or.inl ⟨by rfl, ?y6⟩) ?r6
        case y6 => (intro W; go_simp; first | done | with_reducible rfl | rw [if_neg (by omega)] | rw [if_pos (by omega)])
        case r6 =>
        refine wpAny_take (i := 13) (v := ?v7) rfl (by kernel_rfl) (by kernel_rfl) (by kernel_rfl) (fun _ _ _ h => h) (Or.inl ⟨by rfl, ?y7⟩) ?r7
        case y7 => (intro W; go_simp; first | done | with_reducible rfl | rw [if_neg (by omega)] | rw [if_pos (by omega)])
        case r7 =>
        refine wpAny_take (i := 14) (v := ?v8) rfl (by kernel_rfl) (by kernel_rfl) (by kernel_rfl) (fun _ _ _ h => h) (Or.inl ⟨by rfl, ?y8⟩) ?r8
        case y8 => (intro W; go_simp; first | done | with_reducible rfl | rw [if_neg (by omega)] | rw [if_pos (by omega)])
        case r8 =>
        refine wpAny_take (i := 15) (v := ?v9) rfl (by kernel_rfl) (by kernel_rfl) (by kernel_rfl) (fun _ _ _ h => h) (Or.inl ⟨by rfl, ?y9⟩) ?r9
        case y9 => (intro W; go_simp; first | done | with_reducible rfl | rw [if_neg (by omega)] | rw [if_pos (by omega)])
        case r9 =>
        refine wpAny_ready (rs := [4, 6]) (by kernel_rfl) (by simp) ?_
        refine AllReady.cons rfl (fun K hK => ?_) ?_
        · go_simp
          refine (hI.out _ _ hrD (by omega)).mono ?_
          rintro e W10 ⟨⟨s4, rfl, -, hs4⟩, ⟨q4, hq4, rd10⟩, hgr10⟩
          dsimp only
          refine hK _ _ ?_
          clear hK K
          have gr10 := grown_trans hg hgr10
          refine wpAny_take (i := 5) (v := ?v11) rfl (by kernel_rfl) (by kernel_rfl) (by kernel_rfl) (fun _ _ _ h => h) (Or.inl ⟨by rfl, ?y11⟩) ?r11
          case y11 => (intro W; go_simp; first | done | with_reducible rfl | rw [if_neg (by omega)] | rw [if_pos (by omega)])
          case r11 =>
          refine wpAny_ready (rs := [6, 8]) (by kernel_rfl) (by simp) ?_
          refine AllReady.cons rfl (fun K hK => ?_) ?_
          · go_simp
            refine hK _ _ ?_
            clear hK K
            have rd12 := Rdr.alloc rd10 (.cells #[.string ⟨#[38]⟩, .string ⟨#[124]⟩, .string ⟨#[61]⟩] 9)
            have gr12 := grown_trans gr10 (World.grownBy_alloc _ (.cells #[.string ⟨#[38]⟩, .string ⟨#[124]⟩, .string ⟨#[61]⟩] 9) (some R))
            have hk12 : ∀ x, x < 3 → (World.alloc W10 (.cells #[.string ⟨#[38]⟩, .string ⟨#[124]⟩, .string ⟨#[61]⟩] 9)).cell? ⟨W10.heap.size, x, none⟩ = some (.string (op3 x)) := at3 W10
            have hn12 := ne_size rd10
            refine wpAny_ready (rs := [8]) (by kernel_rfl) (by simp) ?_
            refine AllReady.cons rfl (fun K hK => ?_) ?_
            · go_simp
              refine (pickN R _ _ _ rd12 (by omega) (by omega) (by omega)).mono ?_
              rintro e W13 ⟨⟨x, rfl, hx⟩, rd13, hgr13⟩
              have hx3 : x < 3 := (by omega)
              clear hx
              have ho := op3_size x
              dsimp only
              refine hK _ _ ?_
              clear hK K
              have gr13 := grown_trans gr12 hgr13
              have hk13 := keep3 hk12 hgr13 hn12
              refine wpAny_take (i := 9) (v := ?v14) rfl (by kernel_rfl) (by kernel_rfl) (by kernel_rfl) (fun _ _ _ h => h) (Or.inl ⟨by rfl, ?y14⟩) ?r14
              case y14 => (intro W; go_simp; first | done | with_reducible rfl | rw [if_neg (by omega)] | rw [if_pos (by omega)])
              case r14 =>
              refine wpAny_ready (rs := [10, 16]) (by kernel_rfl) (by simp) ?_
              refine AllReady.cons rfl (fun K hK => ?_) ?_
              · go_simp
                refine hK _ _ ?_
                clear hK K
                refine wpAny_take (i := 11) (v := ?v16) rfl (by kernel_rfl) (by kernel_rfl) (by kernel_rfl) (fun _ _ _ h => h) (Or.inl ⟨by rfl, ?y16⟩) ?r16
                case y16 => (intro W; go_simp; first | done | with_reducible rfl | rw [if_neg (by omega)] | rw [if_pos (by omega)])
                case r16 =>
                refine wpAny_ready (rs := [16]) (by kernel_rfl) (by simp) ?_
                refine AllReady.cons rfl (fun K hK => ?_) ?_
                · go_simp
                  refine (hI.out _ _ rd13 (by omega)).mono ?_
                  rintro e W17 ⟨⟨s16, rfl, -, hs16⟩, ⟨q16, hq16, rd17⟩, hgr17⟩
                  dsimp only
                  refine hK _ _ ?_
                  clear hK K
                  have gr17 := grown_trans gr13 hgr17
                  have hk17 := keep3 hk13 hgr17 hn12
                  refine wpAny_take (i := 17) (v := ?v18) rfl (by kernel_rfl) (by kernel_rfl) (by kernel_rfl) (fun _ _ _ h => h) (Or.inl ⟨by rfl, ?y18⟩) ?r18
                  case y18 => (intro W; go_simp; first | done | with_reducible rfl | rw [if_neg (by omega)] | rw [if_pos (by omega)])
                  case r18 =>
                  refine wpAny_take (i := 18) (v := ?v19) rfl (by kernel_rfl) (by kernel_rfl) (by kernel_rfl) (fun _ _ _ h => h) (Or.inl ⟨by rfl, ?y19⟩) ?r19
                  case y19 => (intro W; go_simp; first | done | with_reducible rfl | rw [if_neg (by omega)] | rw [if_pos (by omega)])
                  case r19 =>
                  refine wpAny_take (i := 19) (v := ?v20) rfl (by kernel_rfl) (by kernel_rfl) (by kernel_rfl) (fun _ _ _ h => h) (Or.inl ⟨by rfl, ?y20⟩) ?r20
                  case y20 => (intro W; go_simp; first | done | with_reducible rfl | rw [if_neg (by omega)] | rw [if_pos (by omega)])
                  case r20 =>
                  refine wpAny_done (by kernel_rfl) ?_ _
                  go_wp2
                  go_ret
                  exact ⟨⟨_, rfl, by simp only [ByteArray.size_append]; omega, by simp only [ByteArray.size_append]; omega⟩, ⟨_, by omega, rd17⟩, gr17⟩
                exact AllReady.nil
              refine AllReady.cons rfl (fun K hK => ?_) ?_
              · go_simp
                refine (hI.out _ _ rd13 (by omega)).mono ?_
                rintro e W21 ⟨⟨s16, rfl, -, hs16⟩, ⟨q16, hq16, rd21⟩, hgr21⟩
                dsimp only
                refine hK _ _ ?_
                clear hK K
                have gr21 := grown_trans gr13 hgr21
                have hk21 := keep3 hk13 hgr21 hn12
                refine wpAny_ready (rs := [10]) (by kernel_rfl) (by simp) ?_
                refine AllReady.cons rfl (fun K hK => ?_) ?_
                · go_simp
                  refine hK _ _ ?_
                  clear hK K
                  refine wpAny_take (i := 11) (v := ?v23) rfl (by kernel_rfl) (by kernel_rfl) (by kernel_rfl) (fun _ _ _ h => h) (Or.inl ⟨by rfl, ?y23⟩) ?r23
                  case y23 => (intro W; go_simp; first | done | with_reducible rfl | rw [if_neg (by omega)] | rw [if_pos (by omega)])
                  case r23 =>
                  refine wpAny_take (i := 17) (v := ?v24) rfl (by kernel_rfl) (by kernel_rfl) (by kernel_rfl) (fun _ _ _ h => h) (Or.inl ⟨by rfl, ?y24⟩) ?r24
                  case y24 => (intro W; go_simp; first | done | with_reducible rfl | rw [if_neg (by omega)] | rw [if_pos (by omega)])
                  case r24 =>
                  refine wpAny_take (i := 18) (v := ?v25) rfl (by kernel_rfl) (by kernel_rfl) (by kernel_rfl) (fun _ _ _ h => h) (Or.inl ⟨by rfl, ?y25⟩) ?r25
                  case y25 => (intro W; go_simp; first | done | with_reducible rfl | rw [if_neg (by omega)] | rw [if_pos (by omega)])
                  case r25 =>
                  refine wpAny_take (i := 19) (v := ?v26) rfl (by kernel_rfl) (by kernel_rfl) (by kernel_rfl) (fun _ _ _ h => h) (Or.inl ⟨by rfl, ?y26⟩) ?r26
                  case y26 => (intro W; go_simp; first | done | with_reducible rfl | rw [if_neg (by omega)] | rw [if_pos (by omega)])
                  case r26 =>
                  refine wpAny_done (by kernel_rfl) ?_ _
                  go_wp2
                  go_ret
                  exact ⟨⟨_, rfl, by simp only [ByteArray.size_append]; omega, by simp only [ByteArray.size_append]; omega⟩, ⟨_, by omega, rd21⟩, gr21⟩
                exact AllReady.nil
              exact AllReady.nil
            exact AllReady.nil
          refine AllReady.cons rfl (fun K hK => ?_) ?_
          · go_simp
            refine (pickN R _ _ _ rd10 (by omega) (by omega) (by omega)).mono ?_
            rintro e W27 ⟨⟨x, rfl, hx⟩, rd27, hgr27⟩
            have hx3 : x < 3 := (by omega)
            clear hx
            have ho := op3_size x
            dsimp only
            refine hK _ _ ?_
            clear hK K
            have gr27 := grown_trans gr10 hgr27
            refine wpAny_ready (rs := [6, 16]) (by kernel_rfl) (by simp) ?_
            refine AllReady.cons rfl (fun K hK => ?_) ?_
            · go_simp
              refine hK _ _ ?_
              clear hK K
              have rd28 := Rdr.alloc rd27 (.cells #[.string ⟨#[38]⟩, .string ⟨#[124]⟩, .string ⟨#[61]⟩] 9)
              have gr28 := grown_trans gr27 (World.grownBy_alloc _ (.cells #[.string ⟨#[38]⟩, .string ⟨#[124]⟩, .string ⟨#[61]⟩] 9) (some R))
              have hk28 : ∀ x, x < 3 → (World.alloc W27 (.cells #[.string ⟨#[38]⟩, .string ⟨#[124]⟩, .string ⟨#[61]⟩] 9)).cell? ⟨W27.heap.size, x, none⟩ = some (.string (op3 x)) := at3 W27
              have hn28 := ne_size rd27
              refine wpAny_take (i := 9) (v := ?v29) rfl (by kernel_rfl) (by kernel_rfl) (by kernel_rfl) (fun _ _ _ h => h) (Or.inl ⟨by rfl, ?y29⟩) ?r29
              case y29 => (intro W; go_simp; first | done | with_reducible rfl | rw [if_neg (by omega)] | rw [if_pos (by omega)])
              case r29 =>
              refine wpAny_ready (rs := [10, 16]) (by kernel_rfl) (by simp) ?_
              refine AllReady.cons rfl (fun K hK => ?_) ?_
              · go_simp
                refine hK _ _ ?_
                clear hK K
                refine wpAny_take (i := 11) (v := ?v31) rfl (by kernel_rfl) (by kernel_rfl) (by kernel_rfl) (fun _ _ _ h => h) (Or.inl ⟨by rfl, ?y31⟩) ?r31
                case y31 => (intro W; go_simp; first | done | with_reducible rfl | rw [if_neg (by omega)] | rw [if_pos (by omega)])
                case r31 =>
                refine wpAny_ready (rs := [16]) (by kernel_rfl) (by simp) ?_
                refine AllReady.cons rfl (fun K hK => ?_) ?_
                · go_simp
                  refine (hI.out _ _ rd28 (by omega)).mono ?_
                  rintro e W32 ⟨⟨s16, rfl, -, hs16⟩, ⟨q16, hq16, rd32⟩, hgr32⟩
                  dsimp only
                  refine hK _ _ ?_
                  clear hK K
                  have gr32 := grown_trans gr28 hgr32
                  have hk32 := keep3 hk28 hgr32 hn28
                  refine wpAny_take (i := 17) (v := ?v33) rfl (by kernel_rfl) (by kernel_rfl) (by kernel_rfl) (fun _ _ _ h => h) (Or.inl ⟨by rfl, ?y33⟩) ?r33
                  case y33 => (intro W; go_simp; first | done | with_reducible rfl | rw [if_neg (by omega)] | rw [if_pos (by omega)])
                  case r33 =>
                  refine wpAny_take (i := 18) (v := ?v34) rfl (by kernel_rfl) (by kernel_rfl) (by kernel_rfl) (fun _ _ _ h => h) (Or.inl ⟨by rfl, ?y34⟩) ?r34
                  case y34 => (intro W; go_simp; first | done | with_reducible rfl | rw [if_neg (by omega)] | rw [if_pos (by omega)])
                  case r34 =>
                  refine wpAny_take (i := 19) (v := ?v35) rfl (by kernel_rfl) (by kernel_rfl) (by kernel_rfl) (fun _ _ _ h => h) (Or.inl ⟨by rfl, ?y35⟩) ?r35
                  case y35 => (intro W; go_simp; first | done | with_reducible rfl | rw [if_neg (by omega)] | rw [if_pos (by omega)])
                  case r35 =>
                  refine wpAny_done (by kernel_rfl) ?_ _
                  go_wp2
                  go_ret
                  exact ⟨⟨_, rfl, by simp only [ByteArray.size_append]; omega, by simp only [ByteArray.size_append]; omega⟩, ⟨_, by omega, rd32⟩, gr32⟩
                exact AllReady.nil
              refine AllReady.cons rfl (fun K hK => ?_) ?_
              · go_simp
                refine (hI.out _ _ rd28 (by omega)).mono ?_
                rintro e W36 ⟨⟨s16, rfl, -, hs16⟩, ⟨q16, hq16, rd36⟩, hgr36⟩
                dsimp only
                refine hK _ _ ?_
                clear hK K
                have gr36 := grown_trans gr28 hgr36
                have hk36 := keep3 hk28 hgr36 hn28
                refine wpAny_ready (rs := [10]) (by kernel_rfl) (by simp) ?_
                refine AllReady.cons rfl (fun K hK => ?_) ?_
                · go_simp
                  refine hK _ _ ?_
                  clear hK K
                  refine wpAny_take (i := 11) (v := ?v38) rfl (by kernel_rfl) (by kernel_rfl) (by kernel_rfl) (fun _ _ _ h => h) (Or.inl ⟨by rfl, ?y38⟩) ?r38
                  case y38 => (intro W; go_simp; first | done | with_reducible rfl | rw [if_neg (by omega)] | rw [if_pos (by omega)])
                  case r38 =>
                  refine wpAny_take (i := 17) (v := ?v39) rfl (by kernel_rfl) (by kernel_rfl) (by kernel_rfl) (fun _ _ _ h => h) (Or.inl ⟨by rfl, ?y39⟩) ?r39
                  case y39 => (intro W; go_simp; first | done | with_reducible rfl | rw [if_neg (by omega)] | rw [if_pos (by omega)])
                  case r39 =>
                  refine wpAny_take (i := 18) (v := ?v40) rfl (by kernel_rfl) (by kernel_rfl) (by kernel_rfl) (fun _ _ _ h => h) (Or.inl ⟨by rfl, ?y40⟩) ?r40
                  case y40 => (intro W; go_simp; first | done | with_reducible rfl | rw [if_neg (by omega)] | rw [if_pos (by omega)])
                  case r40 =>
                  refine wpAny_take (i := 19) (v := ?v41) rfl (by kernel_rfl) (by kernel_rfl) (by kernel_rfl) (fun _ _ _ h => h) (Or.inl ⟨by rfl, ?y41⟩) ?r41
                  case y41 => (intro W; go_simp; first | done | with_reducible rfl | rw [if_neg (by omega)] | rw [if_pos (by omega)])
                  case r41 =>
                  refine wpAny_done (by kernel_rfl) ?_ _
                  go_wp2
                  go_ret
                  exact ⟨⟨_, rfl, by simp only [ByteArray.size_append]; omega, by simp only [ByteArray.size_append]; omega⟩, ⟨_, by omega, rd36⟩, gr36⟩
                exact AllReady.nil
              exact AllReady.nil
            refine AllReady.cons rfl (fun K hK => ?_) ?_
            · go_simp
              refine (hI.out _ _ rd27 (by omega)).mono ?_
              rintro e W42 ⟨⟨s16, rfl, -, hs16⟩, ⟨q16, hq16, rd42⟩, hgr42⟩
              dsimp only
              refine hK _ _ ?_
              clear hK K
              have gr42 := grown_trans gr27 hgr42
              refine wpAny_ready (rs := [6]) (by kernel_rfl) (by simp) ?_
              refine AllReady.cons rfl (fun K hK => ?_) ?_
              · go_simp
                refine hK _ _ ?_
                clear hK K
                have rd43 := Rdr.alloc rd42 (.cells #[.string ⟨#[38]⟩, .string ⟨#[124]⟩, .string ⟨#[61]⟩] 9)
                have gr43 := grown_trans gr42 (World.grownBy_alloc _ (.cells #[.string ⟨#[38]⟩, .string ⟨#[124]⟩, .string ⟨#[61]⟩] 9) (some R))
                have hk43 : ∀ x, x < 3 → (World.alloc W42 (.cells #[.string ⟨#[38]⟩, .string ⟨#[124]⟩, .string ⟨#[61]⟩] 9)).cell? ⟨W42.heap.size, x, none⟩ = some (.string (op3 x)) := at3 W42
                have hn43 := ne_size rd42
                refine wpAny_take (i := 9) (v := ?v44) rfl (by kernel_rfl) (by kernel_rfl) (by kernel_rfl) (fun _ _ _ h => h) (Or.inl ⟨by rfl, ?y44⟩) ?r44
                case y44 => (intro W; go_simp; first | done | with_reducible rfl | rw [if_neg (by omega)] | rw [if_pos (by omega)])
                case r44 =>
                refine wpAny_ready (rs := [10]) (by kernel_rfl) (by simp) ?_
                refine AllReady.cons rfl (fun K hK => ?_) ?_
                · go_simp
                  refine hK _ _ ?_
                  clear hK K
                  refine wpAny_take (i := 11) (v := ?v46) rfl (by kernel_rfl) (by kernel_rfl) (by kernel_rfl) (fun _ _ _ h => h) (Or.inl ⟨by rfl, ?y46⟩) ?r46
                  case y46 => (intro W; go_simp; first | done | with_reducible rfl | rw [if_neg (by omega)] | rw [if_pos (by omega)])
                  case r46 =>
                  refine wpAny_take (i := 17) (v := ?v47) rfl (by kernel_rfl) (by kernel_rfl) (by kernel_rfl) (fun _ _ _ h => h) (Or.inl ⟨by rfl, ?y47⟩) ?r47
                  case y47 => (intro W; go_simp; first | done | with_reducible rfl | rw [if_neg (by omega)] | rw [if_pos (by omega)])
                  case r47 =>
                  refine wpAny_take (i := 18) (v := ?v48) rfl (by kernel_rfl) (by kernel_rfl) (by kernel_rfl) (fun _ _ _ h => h) (Or.inl ⟨by rfl, ?y48⟩) ?r48
                  case y48 => (intro W; go_simp; first | done | with_reducible rfl | rw [if_neg (by omega)] | rw [if_pos (by omega)])
                  case r48 =>
                  refine wpAny_take (i := 19) (v := ?v49) rfl (by kernel_rfl) (by kernel_rfl) (by kernel_rfl) (fun _ _ _ h => h) (Or.inl ⟨by rfl, ?y49⟩) ?r49
                  case y49 => (intro W; go_simp; first | done | with_reducible rfl | rw [if_neg (by omega)] | rw [if_pos (by omega)])
                  case r49 =>
                  refine wpAny_done (by kernel_rfl) ?_ _
                  go_wp2
                  go_ret
                  exact ⟨⟨_, rfl, by simp only [ByteArray.size_append]; omega, by simp only [ByteArray.size_append]; omega⟩, ⟨_, by omega, rd43⟩, gr43⟩
                exact AllReady.nil
              exact AllReady.nil
            exact AllReady.nil
          exact AllReady.nil
        refine AllReady.cons rfl (fun K hK => ?_) ?_
        · go_simp
          refine hK _ _ ?_
          clear hK K
          have rd50 := Rdr.alloc hrD (.cells #[.string ⟨#[38]⟩, .string ⟨#[124]⟩, .string ⟨#[61]⟩] 9)
          have gr50 := grown_trans hg (World.grownBy_alloc _ (.cells #[.string ⟨#[38]⟩, .string ⟨#[124]⟩, .string ⟨#[61]⟩] 9) (some R))
          have hk50 : ∀ x, x < 3 → (World.alloc w2.drew (.cells #[.string ⟨#[38]⟩, .string ⟨#[124]⟩, .string ⟨#[61]⟩] 9)).cell? ⟨w2.heap.size, x, none⟩ = some (.string (op3 x)) := at3 w2.drew
          have hn50 := ne_size hrD
          refine wpAny_ready (rs := [4]) (by kernel_rfl) (by simp) ?_
          refine AllReady.cons rfl (fun K hK => ?_) ?_
          · go_simp
            refine (hI.out _ _ rd50 (by omega)).mono ?_
            rintro e W51 ⟨⟨s4, rfl, -, hs4⟩, ⟨q4, hq4, rd51⟩, hgr51⟩
            dsimp only
            refine hK _ _ ?_
            clear hK K
            have gr51 := grown_trans gr50 hgr51
            have hk51 := keep3 hk50 hgr51 hn50
            refine wpAny_take (i := 5) (v := ?v52) rfl (by kernel_rfl) (by kernel_rfl) (by kernel_rfl) (fun _ _ _ h => h) (Or.inl ⟨by rfl, ?y52⟩) ?r52
            case y52 => (intro W; go_simp; first | done | with_reducible rfl | rw [if_neg (by omega)] | rw [if_pos (by omega)])
            case r52 =>
            refine wpAny_ready (rs := [8]) (by kernel_rfl) (by simp) ?_
            refine AllReady.cons rfl (fun K hK => ?_) ?_
            · go_simp
              refine (pickN R _ _ _ rd51 (by omega) (by omega) (by omega)).mono ?_
              rintro e W53 ⟨⟨x, rfl, hx⟩, rd53, hgr53⟩
              have hx3 : x < 3 := (by omega)
              clear hx
              have ho := op3_size x
              dsimp only
              refine hK _ _ ?_
              clear hK K
              have gr53 := grown_trans gr51 hgr53
              have hk53 := keep3 hk51 hgr53 hn50
              refine wpAny_take (i := 9) (v := ?v54) rfl (by kernel_rfl) (by kernel_rfl) (by kernel_rfl) (fun _ _ _ h => h) (Or.inl ⟨by rfl, ?y54⟩) ?r54
              case y54 => (intro W; go_simp; first | done | with_reducible rfl | rw [if_neg (by omega)] | rw [if_pos (by omega)])
              case r54 =>
              refine wpAny_ready (rs := [10, 16]) (by kernel_rfl) (by simp) ?_
              refine AllReady.cons rfl (fun K hK => ?_) ?_
              · go_simp
                refine hK _ _ ?_
                clear hK K
                refine wpAny_take (i := 11) (v := ?v56) rfl (by kernel_rfl) (by kernel_rfl) (by kernel_rfl) (fun _ _ _ h => h) (Or.inl ⟨by rfl, ?y56⟩) ?r56
                case y56 => (intro W; go_simp; first | done | with_reducible rfl | rw [if_neg (by omega)] | rw [if_pos (by omega)])
                case r56 =>
                refine wpAny_ready (rs := [16]) (by kernel_rfl) (by simp) ?_
                refine AllReady.cons rfl (fun K hK => ?_) ?_
                · go_simp
                  refine (hI.out _ _ rd53 (by omega)).mono ?_
                  rintro e W57 ⟨⟨s16, rfl, -, hs16⟩, ⟨q16, hq16, rd57⟩, hgr57⟩
                  dsimp only
                  refine hK _ _ ?_
                  clear hK K
                  have gr57 := grown_trans gr53 hgr57
                  have hk57 := keep3 hk53 hgr57 hn50
                  refine wpAny_take (i := 17) (v := ?v58) rfl (by kernel_rfl) (by kernel_rfl) (by kernel_rfl) (fun _ _ _ h => h) (Or.inl ⟨by rfl, ?y58⟩) ?r58
                  case y58 => (intro W; go_simp; first | done | with_reducible rfl | rw [if_neg (by omega)] | rw [if_pos (by omega)])
                  case r58 =>
                  refine wpAny_take (i := 18) (v := ?v59) rfl (by kernel_rfl) (by kernel_rfl) (by kernel_rfl) (fun _ _ _ h => h) (Or.inl ⟨by rfl, ?y59⟩) ?r59
                  case y59 => (intro W; go_simp; first | done | with_reducible rfl | rw [if_neg (by omega)] | rw [if_pos (by omega)])
                  case r59 =>
                  refine wpAny_take (i := 19) (v := ?v60) rfl (by kernel_rfl) (by kernel_rfl) (by kernel_rfl) (fun _ _ _ h => h) (Or.inl ⟨by rfl, ?y60⟩) ?r60
                  case y60 => (intro W; go_simp; first | done | with_reducible rfl | rw [if_neg (by omega)] | rw [if_pos (by omega)])
                  case r60 =>
                  refine wpAny_done (by kernel_rfl) ?_ _
                  go_wp2
                  go_ret
                  exact ⟨⟨_, rfl, by simp only [ByteArray.size_append]; omega, by simp only [ByteArray.size_append]; omega⟩, ⟨_, by omega, rd57⟩, gr57⟩
                exact AllReady.nil
              refine AllReady.cons rfl (fun K hK => ?_) ?_
              · go_simp
                refine (hI.out _ _ rd53 (by omega)).mono ?_
                rintro e W61 ⟨⟨s16, rfl, -, hs16⟩, ⟨q16, hq16, rd61⟩, hgr61⟩
                dsimp only
                refine hK _ _ ?_
                clear hK K
                have gr61 := grown_trans gr53 hgr61
                have hk61 := keep3 hk53 hgr61 hn50
                refine wpAny_ready (rs := [10]) (by kernel_rfl) (by simp) ?_
                refine AllReady.cons rfl (fun K hK => ?_) ?_
                · go_simp
                  refine hK _ _ ?_
                  clear hK K
                  refine wpAny_take (i := 11) (v := ?v63) rfl (by kernel_rfl) (by kernel_rfl) (by kernel_rfl) (fun _ _ _ h => h) (Or.inl ⟨by rfl, ?y63⟩) ?r63
                  case y63 => (intro W; go_simp; first | done | with_reducible rfl | rw [if_neg (by omega)] | rw [if_pos (by omega)])
                  case r63 =>
                  refine wpAny_take (i := 17) (v := ?v64) rfl (by kernel_rfl) (by kernel_rfl) (by kernel_rfl) (fun _ _ _ h => h) (Or.inl ⟨by rfl, ?y64⟩) ?r64
                  case y64 => (intro W; go_simp; first | done | with_reducible rfl | rw [if_neg (by omega)] | rw [if_pos (by omega)])
                  case r64 =>
                  refine wpAny_take (i := 18) (v := ?v65) rfl (by kernel_rfl) (by kernel_rfl) (by kernel_rfl) (fun _ _ _ h => h) (Or.inl ⟨by rfl, ?y65⟩) ?r65
                  case y65 => (intro W; go_simp; first | done | with_reducible rfl | rw [if_neg (by omega)] | rw [if_pos (by omega)])
                  case r65 =>
                  refine wpAny_take (i := 19) (v := ?v66) rfl (by kernel_rfl) (by kernel_rfl) (by kernel_rfl) (fun _ _ _ h => h) (Or.inl ⟨by rfl, ?y66⟩) ?r66
                  case y66 => (intro W; go_simp; first | done | with_reducible rfl | rw [if_neg (by omega)] | rw [if_pos (by omega)])
                  case r66 =>
                  refine wpAny_done (by kernel_rfl) ?_ _
                  go_wp2
                  go_ret
                  exact ⟨⟨_, rfl, by simp only [ByteArray.size_append]; omega, by simp only [ByteArray.size_append]; omega⟩, ⟨_, by omega, rd61⟩, gr61⟩
                exact AllReady.nil
              exact AllReady.nil
            exact AllReady.nil
          exact AllReady.nil
        exact AllReady.nil

end Go.Proofs.Ytbhpponandmgnaa
