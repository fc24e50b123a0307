/- The table of the program's search: a map whose keys are a row and a number of questions. No condition. -/
import Derived.Test.YtdpbjepjiloeaaaPlace
import Derived.Test.YtdpbjepjiloeaaaMem
import Derived.Maps.OwnSet
import Derived.Maps.Range
import Derived.DeepKeys4
namespace Go.Proofs.Ytdpbjepjiloeaaa
open Go Go.RowKit
open Go.Maps (Keyed)
open M (nth)

theorem Try.laidOut : laidOutB Try.prog = true := by kernel_rfl
theorem Try.rowSt : (60 : TypeId) < Try.prog.types.size := of_decide_eq_true (by kernel_rfl)
theorem Try.wideSt : (match Try.prog.underlying 60 with | some (.array _ _) | some (.struct _) => true | _ => false) = true := by kernel_rfl
theorem klaw : Keyed Try.prog 60 := Keyed.of_law (deep_law_laid Try.laidOut (m := 3) (by omega) Try.rowSt (by kernel_rfl) Try.wideSt)
theorem zeroB (w : World) : (zeroValue 4).run Try.prog w = .ok (.bool false) w := by kernel_rfl

/-- The key of a row and a number of questions. -/
def KV (row : List Int) (q : Nat) : Value := .agg #[.int .i64 (nth row 0), .int .i64 (nth row 1), .int .i64 (nth row 2), .int .i64 (q : Int)]
theorem M.nth_known {row : List Int} (h : M.knownB row = true) (k : Nat) : 0 ≤ nth row k ∧ nth row k ≤ 10 := by
  obtain ⟨-, -, hx, -⟩ := M.known_parts h
  by_cases hk : k < row.length
  · exact hx k hk
  · simp only [nth]; rw [List.getElem?_eq_none (by omega)]; simp
theorem keyTypeSt : Try.prog.keyType 60 = true := by kernel_rfl
theorem keyOf_KV {row : List Int} {q : Nat} (h : M.knownB row = true) (hq : q ≤ 9) : ∃ kl, keyOf Try.prog 60 (KV row q) = some kl := by
  have h0 := M.nth_known h 0
  have h1 := M.nth_known h 1
  have h2 := M.nth_known h 2
  unfold KV
  generalize nth row 0 = a at *
  generalize nth row 1 = b at *
  generalize nth row 2 = c at *
  have wf : ∀ x : Int, 0 ≤ x → x ≤ 10 → (Lit.int .i64 x).wf = true := fun x h0 h1 => WalkArith.wf_i64 (by omega)
  have wa := wf a h0.1 h0.2
  have wb := wf b h1.1 h1.2
  have wc := wf c h2.1 h2.2
  have wq := wf q (by omega) (by omega)
  have c1 : Try.prog.cellsOf 60 = 4 := by kernel_rfl
  have c2 : Try.prog.cellsOf 58 = 3 := by kernel_rfl
  have c3 : Try.prog.cellsOf 3 = 1 := by kernel_rfl
  have kI : ∀ (m : Nat) (x : Int), (Lit.int .i64 x).wf = true → Try.prog.keyLits (m + 1) 3 [.int .i64 x] = some [.int .i64 x] := fun m x hx => by
    unfold Program.keyLits
    rw [Try.underlying3]
    dsimp only
    simp [hx]
  have kA : ∀ m : Nat, Try.prog.keyLits (m + 2) 58 [.int .i64 a, .int .i64 b, .int .i64 c] = some [.int .i64 a, .int .i64 b, .int .i64 c] := fun m => by
    unfold Program.keyLits
    rw [Try.underlying58]
    dsimp only
    simp only [c2, c3]
    simp [List.range, List.range.loop, kI m _ wa, kI m _ wb, kI m _ wc]
  have kS : ∀ m : Nat, Try.prog.keyLits (m + 3) 60 [.int .i64 a, .int .i64 b, .int .i64 c, .int .i64 q] = some [.int .i64 a, .int .i64 b, .int .i64 c, .int .i64 q] := fun m => by
    unfold Program.keyLits
    rw [Try.underlying60]
    dsimp only
    simp [c1, c2, c3, kA m, kI (m + 1) _ wq]
  have hf : Value.formed Try.prog 60 (.agg #[.int .i64 a, .int .i64 b, .int .i64 c, .int .i64 q]) = true := by
    simp [Value.formed, Try.underlying60, c1]
  obtain ⟨m, hm⟩ : ∃ m, Try.prog.types.size + 1 = m + 3 := ⟨Try.prog.types.size - 2, by have : 2 ≤ Try.prog.types.size := of_decide_eq_true (by kernel_rfl); omega⟩
  refine Option.isSome_iff_exists.1 ?_
  unfold keyOf
  rw [Try.underlying60, keyTypeSt, hf, hm]
  simp only [Value.cells, kS m]
  rfl

theorem KV_inj {row row' : List Int} {q q' : Nat} (hk : M.knownB row = true) (hl : row.length = row'.length) (h : KV row q = KV row' q') : q = q' ∧ row = row' := by
  obtain ⟨-, h3, -, -⟩ := M.known_parts hk
  unfold KV at h
  simp only [Value.agg.injEq, Array.mk.injEq, List.cons.injEq, Value.int.injEq, true_and, and_true] at h
  obtain ⟨e0, e1, e2, e3⟩ := h
  refine ⟨by omega, M.ext_nth hl fun j hj => ?_⟩
  match j, hj with
  | 0, _ => exact e0
  | 1, _ => exact e1
  | 2, _ => exact e2
  | j + 3, hj => omega

/-- What the map says is right. -/
def OrcD (L : Nat) (D : DataW Unit) : Prop := ∀ kl, Maps.has D kl = true → ∃ (q : Nat) (row : List Int), q ≤ 9 ∧ M.knownB row = true ∧ row.length = L ∧ keyOf Try.prog 60 (KV row q) = some kl ∧ ∀ z, D.atKey kl z = .lit (.bool (M.win q row))
/-- Block B is a map that is right. -/
def Orc (w : World) (B L : Nat) : Prop := ∃ D : DataW Unit, w.ownsMap Try.prog 60 (plainElem Try.prog 4) B 13310 D ∧ OrcD L D

theorem pig : ∀ (n : Nat) (l : List Nat), l.Nodup → (∀ x ∈ l, x < n) → l.length ≤ n
  | 0, l, _, h => by
    cases l with
    | nil => simp
    | cons x r => have := h x (by simp); omega
  | n + 1, l, hd, h => by
    by_cases hm : n ∈ l
    · have h1 := List.length_erase_of_mem hm
      have h2 := pig n (l.erase n) (hd.erase n) (fun x hx => by
        have hx' := (List.Nodup.mem_erase_iff hd).1 hx
        have := h x hx'.2
        have := hx'.1
        omega)
      omega
    · have := pig n l hd (fun x hx => by
        have := h x hx
        have : x ≠ n := fun e => hm (e ▸ hx)
        omega)
      omega
open Classical in
noncomputable def keyPlace (L : Nat) (kl : Lit) : Nat := if h : ∃ t : Nat × List Int, t.1 ≤ 9 ∧ M.knownB t.2 = true ∧ t.2.length = L ∧ keyOf Try.prog 60 (KV t.2 t.1) = some kl then M.place h.choose.1 h.choose.2 L else 0
theorem keyPlace_of {L : Nat} {kl : Lit} {q : Nat} {row : List Int} (h1 : q ≤ 9) (h2 : M.knownB row = true) (h3 : row.length = L) (h4 : keyOf Try.prog 60 (KV row q) = some kl) :
    ∃ q' row', keyPlace L kl = M.place q' row' L ∧ q' ≤ 9 ∧ M.knownB row' = true ∧ row'.length = L ∧ keyOf Try.prog 60 (KV row' q') = some kl := by
  have h : ∃ t : Nat × List Int, t.1 ≤ 9 ∧ M.knownB t.2 = true ∧ t.2.length = L ∧ keyOf Try.prog 60 (KV t.2 t.1) = some kl := ⟨(q, row), h1, h2, h3, h4⟩
  refine ⟨h.choose.1, h.choose.2, ?_, h.choose_spec⟩
  unfold keyPlace
  rw [dif_pos h]
theorem orc_size {L : Nat} {D : DataW Unit} (h : OrcD L D) (ht : ∃ es, D = .map es ∧ es.Pairwise (fun p q => p.1 ≠ q.1) ∧ ∀ p ∈ es, WideAt.IsKeyLit p.1) : Maps.size D ≤ 13310 := by
  obtain ⟨es, rfl, hp, hks⟩ := ht
  have hkey : ∀ p ∈ es, ∃ q' row', keyPlace L p.1 = M.place q' row' L ∧ q' ≤ 9 ∧ M.knownB row' = true ∧ row'.length = L ∧ keyOf Try.prog 60 (KV row' q') = some p.1 := fun p hpm => by
    have hh : Maps.has (.map es) p.1 = true := by
      rw [Maps.has_eq, List.any_eq_true]
      exact ⟨p, hpm, WideAt.sameKey_self (hks p hpm)⟩
    obtain ⟨q, row, h1, h2, h3, h4, -⟩ := h p.1 hh
    exact keyPlace_of h1 h2 h3 h4
  have hl := pig 13310 (es.map fun p => keyPlace L p.1) (by
    rw [List.Nodup, List.pairwise_map]
    refine hp.imp_of_mem fun {p p'} h1 h2 hne e => ?_
    obtain ⟨q, row, e1, hq, hk, hL, hke⟩ := hkey p h1
    obtain ⟨q', row', e1', hq', hk', hL', hke'⟩ := hkey p' h2
    rw [e1, e1'] at e
    have e2 : M.place q row row.length = M.place q' row' row'.length := by rw [hL, hL']; exact e
    obtain ⟨rfl, rfl⟩ := M.place_row hk hk' (by rw [hL, hL']) e2
    rw [hke] at hke'
    exact hne (by simpa using hke')) (fun x hx => by
    obtain ⟨p, hpm, rfl⟩ := List.mem_map.1 hx
    obtain ⟨q, row, e1, hq, hk, hL, -⟩ := hkey p hpm
    have := M.place_lt hk hq
    rw [hL] at this
    rw [e1]
    exact this)
  simpa [Maps.size] using hl

theorem orc_of {w : World} {B n L : Nat} {D : DataW Unit} (h : w.ownsMap Try.prog 60 (plainElem Try.prog 4) B n D) (hD : OrcD L D) : Orc w B L := by
  have hs := orc_size hD (h.entries klaw)
  obtain ⟨es, clock, hb, F, h1, rfl⟩ := h
  refine ⟨_, ⟨es, clock, hb, F, ?_, rfl⟩, hD⟩
  have e1 : Maps.size (DataW.map ((es.toList.map (WideElems.rg Try.prog 60 (plainElem (H := Unit) Try.prog 4))).foldr DataW.insert [])) = es.size := by simp [Maps.size, length_sorted]
  omega
theorem Orc.made (w : World) (L : Nat) : Orc (w.alloc (.map #[] 0)) w.heap.size L :=
  orc_of (World.ownsMap_made w _ _ _) (fun kl h => by simp [Maps.has] at h)
theorem Orc.lt {w : World} {B L : Nat} (h : Orc w B L) : B < w.heap.size := by
  obtain ⟨D, h, -⟩ := h
  exact h.lt
theorem Orc.kept {w w' : World} {B L : Nat} {row : Option Nat} (h : Orc w B L) (hg : w.grownBy w' row) (hne : some B ≠ row) : Orc w' B L := by
  obtain ⟨D, h, hD⟩ := h
  exact ⟨D, h.kept hg hne, hD⟩
theorem Orc.below {w w' : World} {B L : Nat} (h : Orc w B L) (hb : Below w.heap.size w w') : Orc w' B L := h.kept (grown_of_below hb) (by simp)
theorem plainBool_inv {v : Value} {x : Bool} {ps : List MemPlace} (h : plainElem (H := Unit) Try.prog 4 v = some (.lit (.bool x), ps)) : v = .bool x := by
  unfold plainElem at h
  rw [Try.underlying4] at h
  cases v <;> simp at h
  rw [h.1]
/-- 'v, ok := m[k]'. -/
theorem Orc.look_ok {w : World} {B L q : Nat} {row : List Int} (h : Orc w B L) (hk : M.knownB row = true) (hL : row.length = L) (hq : q ≤ 9) :
    ∃ v ok, (Instr.lookup 52 (.map (some B)) (KV row q) true).run Try.prog w = .ok (.tuple #[.bool v, .bool ok]) w ∧ (ok = true → v = M.win q row) := by
  obtain ⟨D, hown, hD⟩ := h
  obtain ⟨kl, hkl⟩ := keyOf_KV hk hq
  obtain ⟨v, ps, hrun, hv⟩ := hown.look_ok klaw Try.underlying52 (zeroB w) (plainElem_bool Try.underlying4 false) hkl
  cases hh : Maps.has D kl with
  | false =>
    rw [Maps.atKey_of_not_has hh] at hv
    rw [plainBool_inv hv] at hrun
    exact ⟨false, false, by rw [hrun, hh], fun e => by cases e⟩
  | true =>
    obtain ⟨q', row', -, hk', hL', hke, hat⟩ := hD kl hh
    have e := klaw.inj hkl hke
    rw [hat] at hv
    rw [plainBool_inv hv] at hrun
    refine ⟨_, true, by rw [hrun, hh], fun _ => ?_⟩
    obtain ⟨rfl, rfl⟩ := KV_inj hk (by rw [hL, hL']) e
    rfl
/-- 'm[k] = v', and what m[k] then is. -/
theorem Orc.store {w : World} {B L q : Nat} {row : List Int} (h : Orc w B L) (hk : M.knownB row = true) (hL : row.length = L) (hq : q ≤ 9) :
    ∃ w', (Instr.mapUpdate 52 (.map (some B)) (KV row q) (.bool (M.win q row))).run Try.prog w = .ok () w' ∧ Orc w' B L ∧ w.grownBy w' (some B) ∧
      (Instr.lookup 52 (.map (some B)) (KV row q) false).run Try.prog w' = .ok (.bool (M.win q row)) w' := by
  obtain ⟨D, hown, hD⟩ := h
  obtain ⟨kl, hkl⟩ := keyOf_KV hk hq
  obtain ⟨w', hrun, hown', hg⟩ := hown.update klaw Try.underlying52 (by unfold maxLen; omega) hkl (plainElem_bool Try.underlying4 (M.win q row))
  obtain ⟨v, ps, hrun2, hv⟩ := hown'.lookup klaw Try.underlying52 (zeroB w') (plainElem_bool Try.underlying4 false) hkl
  rw [Maps.atKey_put_same hown.isMap (klaw.key hkl)] at hv
  rw [plainBool_inv hv] at hrun2
  refine ⟨w', hrun, orc_of hown' (fun kl' hh => ?_), hg, hrun2⟩
  by_cases e : kl' = kl
  · subst e
    exact ⟨q, row, hq, hk, hL, hkl, fun z => Maps.atKey_put_same hown.isMap (klaw.key hkl) _ z⟩
  · rw [Maps.has_put_other e] at hh
    obtain ⟨q', row', h1, h2, h3, h4, h5⟩ := hD kl' hh
    exact ⟨q', row', h1, h2, h3, h4, fun z => by rw [Maps.atKey_put_other e]; exact h5 z⟩

end Go.Proofs.Ytdpbjepjiloeaaa
