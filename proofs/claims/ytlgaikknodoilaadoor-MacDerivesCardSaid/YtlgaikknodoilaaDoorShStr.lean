/- Strings into bytes and back, in a walk. -/
import Derived.Test.YtlgaikknodoilaaDoorShPkg
import Derived.Lib.ConvBytes
import Derived.Lib.SlBytesConst
import Derived.Lib.BufferRead
import Derived.Laws.IdiomStrings
namespace Go.Proofs.YtlgaikknodoilaaDoor.Sh
set_option linter.unusedVariables false
set_option linter.unusedSimpArgs false
open Go Go.RowKit

theorem bv_eq (x : UInt8) : bv x = .int .u8 (x.toNat : Int) := rfl

/-- A literal's bytes, marked by the run-time. -/
theorem rd_marked (w : World) (l : Bs) (hl : l.length ≤ maxLen) (fr : Nat × Nat) : RD (w.heap.size + 1) (w.alloc (.cells (l.map bv).toArray 5 fr)) (.slice (some ⟨w.heap.size, 0, none⟩) l.length l.length) l := by
  refine ⟨_, l.length, by simp, by simp, hl, by simp, fun _ => ⟨w.heap.size, 0, rfl, by omega, fun j u hu => ?_⟩⟩
  rw [cell_of_row _ _ _ _ _ _ (heap_new w _)]
  simpa using hu

theorem run_str_bytes {P : Program} {S T E : TypeId} (hs : P.underlying S = some .string) (ht : P.underlying T = some (.slice E)) (he : P.underlying E = some (.int .u8)) (s : ByteArray) (hsz : s.size ≤ 140737488355328) (w : World) :
    ∃ v' w', (convert S T (.string s)).run P w = .ok v' w' ∧ RD w'.heap.size w' v' s.data.toList ∧ Below w.heap.size w w' := by
  have hmax : s.size ≤ maxLen := by simp only [maxLen]; omega
  have hl : s.data.toList.length = s.size := by rw [Array.length_toList]; rfl
  have hm : (s.data.toList.map bv).length = s.size := by rw [List.length_map, hl]
  have hfr : ∀ (w : World) (a : Addr), (w.freeze a 1).os = w.os ∧ (w.freeze a 1).tape = w.tape ∧ (w.freeze a 1).output = w.output := fun w a => by
    unfold World.freeze; rw [if_neg (by decide)]; exact ⟨rfl, rfl, rfl⟩
  refine ⟨_, _, Lib.run_convert_string_bytes w S T E s hs ht he, ?_, ?_⟩
  · refine ⟨_, _, by rw [hm], by rw [hm]; exact grownCap_ge w s.size 0 E, grownCap_le_maxLen w s.size 0 E hmax, (fun e => by cases e), fun _ => ⟨w.heap.size, 0, rfl, by rw [Lib.bytesWorld_size]; omega, fun j u hu => ?_⟩⟩
    have hj : j < s.data.toList.length := by have := (List.getElem?_eq_some_iff.1 hu).1; rw [List.length_map] at this; exact this
    rw [Nat.zero_add, Lib.bytesWorld_cell w E s j (by rw [← hl]; exact hj)]
    rw [List.getElem?_map, List.getElem?_eq_getElem hj] at hu
    rw [List.getD_eq_getElem?_getD, List.getElem?_eq_getElem hj]
    exact hu
  · exact ⟨(hfr _ _).1, (hfr _ _).2.1, (hfr _ _).2.2, by rw [Lib.bytesWorld_size]; omega, fun k hk => Lib.bytesWorld_at_old w E s k hk⟩

theorem wpList_str_bytes {P : Program} {S T E : TypeId} (hs : P.underlying S = some .string) (ht : P.underlying T = some (.slice E)) (he : P.underlying E = some (.int .u8))
    {ops : Array Oper} {rest : List Oper} {op : Oper} {a : Act} {w : World} {Q : Exit → Act → World → Prop} (hgd : op.guard = none) (x : Operand) (ho : op.op = .convert S T x) (s : ByteArray) (hx : a.eval x = .string s) (hsz : s.size ≤ 140737488355328)
    (h : ∀ v' w', RD w'.heap.size w' v' s.data.toList → Below w.heap.size w w' → wpList P ops Q rest (a.put op.dst v') w') : wpList P ops Q (op :: rest) a w := by
  obtain ⟨v', w', hr, h1, h2⟩ := run_str_bytes hs ht he s hsz w
  refine wpList_plain hgd fun K hK => ?_
  unfold Oper.wp execOp
  simp only [ho, hx, hr, Sem.run_bind, Sem.run_pure, Result.andThen_ok]
  exact hK _ _ (h v' w' h1 h2)

/-- The same under a guard that holds. -/
theorem wpList_str_bytes_g {P : Program} {S T E : TypeId} (hs : P.underlying S = some .string) (ht : P.underlying T = some (.slice E)) (he : P.underlying E = some (.int .u8))
    {ops : Array Oper} {rest : List Oper} {op : Oper} {a : Act} {w : World} {Q : Exit → Act → World → Prop} (hw : Region.wanted op (yielded ops a.tmps) = true) (x : Operand) (ho : op.op = .convert S T x) (s : ByteArray) (hx : a.eval x = .string s) (hsz : s.size ≤ 140737488355328)
    (h : ∀ v' w', RD w'.heap.size w' v' s.data.toList → Below w.heap.size w w' → wpList P ops Q rest (a.put op.dst v') w') : wpList P ops Q (op :: rest) a w := by
  obtain ⟨v', w', hr, h1, h2⟩ := run_str_bytes hs ht he s hsz w
  refine wpList_step fun K hK => ?_
  rw [if_pos hw]
  unfold Oper.wp execOp
  simp only [ho, hx, hr, Sem.run_bind, Sem.run_pure, Result.andThen_ok]
  exact hK _ _ (h v' w' h1 h2)

/-- 'string(b)'. -/
theorem run_bytes_str {P : Program} {S T E : TypeId} (hs : P.underlying S = some .string) (ht : P.underlying T = some (.slice E)) (he : P.underlying E = some (.int .u8)) {B : Nat} {v : Value} {m : Bs} {w : World} (hv : RD B w v m) :
    (convert T S v).run P w = .ok (.string ⟨m.toArray⟩) w := by
  obtain ⟨a, c, h1, h2, h3, h4, h5⟩ := hv
  rw [List.length_map] at h1
  subst h1
  cases a with
  | none =>
    have : m = [] := by have := h4 rfl; rw [List.length_map] at h2; exact List.length_eq_zero_iff.1 (by omega)
    subst this
    exact Lib.run_convert_nil_bytes w T S E c ht he hs
  | some a =>
    refine run_convert_bytes_back w T S E a c m ht he hs fun j hj => ?_
    obtain ⟨b, o, e, _, hr⟩ := h5 (by intro e; rw [List.map_eq_nil_iff] at e; subst e; simp at hj)
    obtain rfl : a = ⟨b, o, none⟩ := by simpa using e
    rw [Addr.add_mid]
    exact hr j _ (by rw [List.getElem?_map, List.getElem?_eq_getElem hj]; rfl)
end Go.Proofs.YtlgaikknodoilaaDoor.Sh
