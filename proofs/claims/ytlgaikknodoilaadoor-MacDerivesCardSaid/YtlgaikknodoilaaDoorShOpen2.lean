/- What comes in: arrays of two strings, of two or three integers, opened. -/
import Derived.Test.YtlgaikknodoilaaDoorShOpen
import Derived.Laws.IdiomArrays
namespace Go.Proofs.YtlgaikknodoilaaDoor.Sh
set_option linter.unusedVariables false
set_option linter.unusedSimpArgs false
open Go Go.ChangeShapes Go.WideShapes Go.ChangeAt Go.RowKit

theorem trod_arr2 {H : Type} {enc : TypeId × Value → H} {P : Program} {w : World} {base : Nat} {spare : Nat → Bool} {held : Bool} {t e : TypeId} {fuel : Nat} {c0 c1 : Value} {x : DataW H × List MemPlace} (ht : P.underlying t = some (.array 2 e)) (hce : P.cellsOf e = 1)
    (h : DataW.trod enc P w base spare held fuel t [c0, c1] = some x) :
    ∃ y0 y1 n, DataW.trod enc P w base spare held n e [c0] = some y0 ∧ DataW.trod enc P w base spare held n e [c1] = some y1 := by
  cases fuel with
  | zero => simp [DataW.trod] at h
  | succ n =>
    unfold DataW.trod at h
    rw [ht] at h
    have r2 : List.range 2 = [0, 1] := rfl
    simp [r2, hce] at h
    obtain ⟨_, h⟩ := h
    cases h0 : DataW.trod enc P w base spare held n e [c0] with
    | none => simp [h0] at h
    | some y0 =>
      cases h1 : DataW.trod enc P w base spare held n e [c1] with
      | none => simp [h0, h1] at h
      | some y1 => exact ⟨y0, y1, n, h0, h1⟩
theorem agg_of_ok {t e : TypeId} {n : Nat} (ht : Tryd.prog.underlying t = some (.array n e)) (hs : Tryd.prog.cellsOf t = n) {W : World} {base : Nat} {v : Value} (hv : Value.okWide Tryd.prog W .any base t v) : ∃ cs : Array Value, v = .agg cs ∧ cs.size = n := by
  unfold Value.okWide at hv
  simp only [ht] at hv
  obtain ⟨cs, h1, h2, _⟩ := hv
  exact ⟨cs, h1, by rw [h2, hs]⟩
theorem two_of {cs : Array Value} (h : cs.size = 2) : ∃ c0 c1, cs = #[c0, c1] := by
  obtain ⟨l⟩ := cs
  match l, h with
  | [a, b], _ => exact ⟨a, b, rfl⟩
theorem three_of {cs : Array Value} (h : cs.size = 3) : ∃ c0 c1 c2, cs = #[c0, c1, c2] := by
  obtain ⟨l⟩ := cs
  match l, h with
  | [a, b, c], _ => exact ⟨a, b, c, rfl⟩
theorem strs2_of_trod {H : Type} {enc : TypeId × Value → H} {W : World} {t e : TypeId} {v : Value} {d : DataW H} {p : List MemPlace} (ht : Tryd.prog.underlying t = some (.array 2 e)) (he : Tryd.prog.underlying e = some .string) (hce : Tryd.prog.cellsOf e = 1) (hs : Tryd.prog.cellsOf t = 2)
    {base : Nat} (hv : Value.okWide Tryd.prog W .any base t v) (h : DataW.Trod enc Tryd.prog W 0 (fun _ => true) true t v d p) :
    ∃ s0 s1 : ByteArray, v = .agg #[.string s0, .string s1] ∧ s0.size ≤ maxLen ∧ s1.size ≤ maxLen ∧ ∀ x ∈ p, x.block < W.heap.size := by
  obtain ⟨cs, rfl, hc⟩ := agg_of_ok ht hs hv
  obtain ⟨c0, c1, rfl⟩ := two_of hc
  obtain ⟨m, hm⟩ := h
  have lt := DataW.trod_lt m _ _ _ hm
  obtain ⟨y0, y1, n, h0, h1⟩ := trod_arr2 ht hce hm
  obtain ⟨s0, e0, _, w0⟩ := DataW.trod_string he h0
  obtain ⟨s1, e1, _, w1⟩ := DataW.trod_string he h1
  simp only [List.cons.injEq, and_true] at e0 e1
  subst e0; subst e1
  exact ⟨s0, s1, rfl, w0, w1, lt⟩
theorem ints2_of_trod {H : Type} {enc : TypeId × Value → H} {W : World} {t e : TypeId} {v : Value} {d : DataW H} {p : List MemPlace} (ht : Tryd.prog.underlying t = some (.array 2 e)) (he : Tryd.prog.underlying e = some (.int .i64)) (hce : Tryd.prog.cellsOf e = 1) (hs : Tryd.prog.cellsOf t = 2)
    {base : Nat} (hv : Value.okWide Tryd.prog W .any base t v) (h : DataW.Trod enc Tryd.prog W 0 (fun _ => true) true t v d p) :
    ∃ a0 a1 : Int, v = .agg #[.int .i64 a0, .int .i64 a1] ∧ Fits a0 ∧ Fits a1 ∧ ∀ x ∈ p, x.block < W.heap.size := by
  obtain ⟨cs, rfl, hc⟩ := agg_of_ok ht hs hv
  obtain ⟨c0, c1, rfl⟩ := two_of hc
  obtain ⟨m, hm⟩ := h
  have lt := DataW.trod_lt m _ _ _ hm
  obtain ⟨y0, y1, n, h0, h1⟩ := trod_arr2 ht hce hm
  obtain ⟨s0, e0, _, w0⟩ := DataW.trod_int he h0
  obtain ⟨s1, e1, _, w1⟩ := DataW.trod_int he h1
  simp only [List.cons.injEq, and_true] at e0 e1
  subst e0; subst e1
  exact ⟨s0, s1, rfl, fits_of_wf w0, fits_of_wf w1, lt⟩
theorem ints3_of_trod {H : Type} {enc : TypeId × Value → H} {W : World} {t e : TypeId} {v : Value} {d : DataW H} {p : List MemPlace} (ht : Tryd.prog.underlying t = some (.array 3 e)) (he : Tryd.prog.underlying e = some (.int .i64)) (hce : Tryd.prog.cellsOf e = 1) (hs : Tryd.prog.cellsOf t = 3)
    {base : Nat} (hv : Value.okWide Tryd.prog W .any base t v) (h : DataW.Trod enc Tryd.prog W 0 (fun _ => true) true t v d p) :
    ∃ a0 a1 a2 : Int, v = .agg #[.int .i64 a0, .int .i64 a1, .int .i64 a2] ∧ Fits a0 ∧ Fits a1 ∧ Fits a2 ∧ ∀ x ∈ p, x.block < W.heap.size := by
  obtain ⟨cs, rfl, hc⟩ := agg_of_ok ht hs hv
  obtain ⟨c0, c1, c2, rfl⟩ := three_of hc
  obtain ⟨m, hm⟩ := h
  have lt := DataW.trod_lt m _ _ _ hm
  obtain ⟨y0, y1, y2, n, _, h0, h1, h2⟩ := trod_array3 ht hce hm
  obtain ⟨s0, e0, _, w0⟩ := DataW.trod_int he h0
  obtain ⟨s1, e1, _, w1⟩ := DataW.trod_int he h1
  obtain ⟨s2, e2, _, w2⟩ := DataW.trod_int he h2
  simp only [List.cons.injEq, and_true] at e0 e1 e2
  subst e0; subst e1; subst e2
  exact ⟨s0, s1, s2, rfl, fits_of_wf w0, fits_of_wf w1, fits_of_wf w2, lt⟩
end Go.Proofs.YtlgaikknodoilaaDoor.Sh
