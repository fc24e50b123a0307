/-
  FOR EVERY INPUT the law FnExactSayingsOk of the given program returns true, and each argument reads afterwards as it read before. No condition. (The frame is the kit's proof skeleton turned to a slice of structs; the walk is FnExactSayingsOk_w.)
-/
import Derived.Test.YtbhpponandmgnaaRows
import Derived.Test.YtbhpponandmgnaaSayS2
import Derived.WalkKit
import Derived.ProofKit
import Derived.OpenShut
import Derived.ShutString
import Derived.ChangeOld
import Derived.Below
namespace Go.Proofs.Ytbhpponandmgnaa.fnExactSayingsOk
open Go.ChangeShapes Go.WideShapes Go.ChangeAt Go.RowKit
open Go.ChangeMaps (open_string shut_string)
set_option linter.unusedVariables false

theorem own : ownKnob Try.prog.godebug = none := by kernel_rfl
theorem laidOut : laidOutB Try.prog = true := by kernel_rfl

set_option maxRecDepth 100000 in
theorem lifted (os : Os) (started : os.Started) (H : Type) (enc : TypeId × Value → H) :
    ReturnsInHanded {} Try.checked os 7 .any (Rows.fnExactSayingsOkSpec.pre6 enc Try.prog Try.f7 Rows.fnExactSayingsOkRow.domain false) (Rows.fnExactSayingsOkSpec.post enc Try.prog Try.f7 false true false false) := by
  refine returnsInHanded_of_change (C := Try.checked) own started (by kernel_rfl) Try.func7
    (ChangeSpec.witness6 (enc := enc) (C := Try.checked) false ⟨#[], #[.int .i64 0, .slice none 0 0], []⟩ 8 (by kernel_rfl) (by kernel_rfl) (by kernel_rfl) (by kernel_rfl)) ?_
  intro W base args ds gs before hval0 hW hcnd _
  have hval : ∀ (j : Nat) t v, Try.f7.params[j]? = some t → args[j]? = some v → Value.okWide Try.prog W .any base t v := hval0
  have hW' := hW
  obtain ⟨p, q, hA0, hV, rfl, hfz, hnd⟩ := hW
  have hA : DataW.TrodAll enc Try.prog W 0 (fun _ => true) true Try.f7.params.toList args.toList ds p := hA0
  rw [Try.params7] at hA hval
  obtain ⟨v0, vs0, d0, ds0, p0, q0, hargs, rfl, rfl, h0, r0⟩ := trodAll_cons hA
  obtain ⟨v1, vs1, d1, ds1, p1, q1, rfl, rfl, rfl, h1, r1⟩ := trodAll_cons r0
  obtain ⟨rfl, rfl, rfl⟩ := trodAll_nil r1
  obtain rfl : args = #[v0, v1] := by cases args; simp_all
  obtain ⟨rfl, rfl⟩ := trodVars_none hV
  obtain ⟨a0, rfl, rfl, rfl, w0⟩ := open_int Try.underlying3 (hval 0 3 v0 rfl rfl) h0
  obtain ⟨a1, len1, cap1, rfl⟩ := okWide_slice Try.underlying31 (hval 1 31 v1 rfl rfl)
  have k1 := h1
  have lt1 : ∀ x ∈ p1, x.block < W.heap.size := by obtain ⟨m, hm⟩ := k1; exact DataW.trod_lt m _ _ _ hm
  obtain ⟨ss, w1⟩ : ∃ ss, RdS W a1 len1 ss := by
    obtain ⟨fuel, hf⟩ := h1
    rcases Go.Deep.open_slice_pairs Try.underlying31 Try.underlying51 (by kernel_rfl) rfl rfl (by kernel_rfl) (by kernel_rfl) hf with ⟨hcs, _⟩ | ⟨x, l, c, m, n, V0, V1, D0, D1, P0, P1, hcs, _, hl, hm, hmm, _, hc⟩
    · simp [Value.cells] at hcs
      obtain ⟨rfl, rfl, rfl⟩ := hcs
      exact ⟨[], rfl, by omega, fun k hk => absurd hk (Nat.not_lt_zero _), fun h => absurd h (by omega)⟩
    · simp [Value.cells] at hcs
      obtain ⟨rfl, rfl, rfl⟩ := hcs
      have hlm : len1 ≤ m := by rw [hmm]; split <;> omega
      have each : ∀ i, i < len1 → ∃ y : Int × ByteArray, W.cell? (x.add (i * 2)) = some (.int .i64 y.1) ∧ W.cell? (x.add (i * 2 + 1)) = some (.string y.2) ∧ y.2.size ≤ 9223372036854775807 := fun i hi => by
        obtain ⟨e0, e1, t0, t1⟩ := hc i (by omega)
        obtain ⟨b, hb, -, -⟩ := DataW.trod_int Try.underlying3 t0
        obtain ⟨s, hs, -, hsz⟩ := DataW.trod_string Try.underlying9 t1
        simp only [List.cons.injEq, and_true] at hb hs
        exact ⟨(b, s), by rw [e0, hb], by rw [e1, hs], by unfold maxLen at hsz; omega⟩
      obtain ⟨f, hf'⟩ := Go.Deep.choose_lt each
      have hn : ∀ k, k < len1 → nthS ((List.range len1).map f) k = f k := fun k hk => by simp [nthS, hk]
      refine ⟨(List.range len1).map f, by simp, by unfold maxLen at hm; omega, fun k hk => by rw [hn k hk]; exact (hf' k hk).2.2, fun h0 => ⟨x, rfl, ?_, fun k hk => by rw [hn k hk]; exact ⟨(hf' k hk).1, (hf' k hk).2.1⟩⟩⟩
      have := World.block_lt_of_cell? _ _ (hf' 0 h0).1
      rwa [block_of_add] at this
  clear hA0 hval0
  refine (FnExactSayingsOk_w W a0 a1 len1 cap1 ss w1).mono fun e W' ⟨he, bel⟩ => ?_
  subst he
  exact ⟨_, rfl, _, _, _, [], _, [], hW', trodAll_mk1 (shut_bool Try.underlying4 _), (trodAll_cons_mk (shut_int Try.underlying3 w0) (trodAll_cons_mk (Below.trod laidOut (by kernel_rfl) (of_decide_eq_true (by kernel_rfl)) k1 bel lt1) trodAll_mk0)), rfl, bel.frame _, fun h => by cases h⟩

theorem over : Rows.fnExactSayingsOkRow.holds Try.pinned (OpenSpec.ofChange Rows.fnExactSayingsOkSpec) :=
  OpenClaim.holds_of_wide 7 Try.f7 rfl rfl rfl rfl rfl rfl rfl ⟨rfl, rfl, rfl, rfl, rfl⟩ rfl rfl rfl rfl rfl (by kernel_rfl) Try.func7 (by kernel_rfl)
    (of_decide_eq_true (by kernel_rfl)) (by unfold Func.isWrapper; first | (rw [if_pos (by decide +kernel)]; kernel_rfl) | (rw [if_neg (by decide +kernel)]; exact ⟨rfl, rfl⟩))
    (fun os started H enc _ => lifted os started H enc)

/-- The statement. -/
theorem proved : Rows.FnExactSayingsOkSaid := over
#print axioms proved
end Go.Proofs.Ytbhpponandmgnaa.fnExactSayingsOk
