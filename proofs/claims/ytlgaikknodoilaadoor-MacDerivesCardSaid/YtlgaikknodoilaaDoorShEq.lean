/- Two arrays of integers compared, over any program. -/
import Derived.Test.YtlgaikknodoilaaDoorShPkg
import Derived.Laws.StructEq
namespace Go.Proofs.YtlgaikknodoilaaDoor.Sh
set_option linter.unusedVariables false
set_option linter.unusedSimpArgs false
open Go Go.RowKit
variable {P : Program}

theorem run_part_row (w : World) {e : TypeId} {d : TypeDesc} (he : P.underlying e = some d) (hd : d.isRow = false) (hs : (P.info? e).map (·.size) = some 1) (cs : Array Value) (j : Nat) (v : Value) (hv : cs[j]? = some v) :
    (part e cs j).run P w = .ok v w := by
  obtain ⟨i, hi, hs⟩ := Option.map_eq_some_iff.1 hs
  have hagg : (isAgg e).run P w = .ok false w := by
    unfold isAgg
    rw [Sem.run_bind, run_underlying he w]
    cases d <;> first | rfl | cases hd
  simp [part, hagg, sizeOf, typeInfo, hi, hs, hv]

theorem run_equalIn_row (w : World) {t e : TypeId} {n : Nat} {k : IntKind} (ht : P.underlying t = some (.array n e)) (he : P.underlying e = some (.int k)) (hs : (P.info? e).map (·.size) = some 1) (xs ys : List Int) (hx : xs.length = n) (hy : ys.length = n) (d : Nat) :
    (Op.equalIn (d + 2) t (.agg (xs.map (Value.int k)).toArray) (.agg (ys.map (Value.int k)).toArray)).run P w = .ok (xs == ys) w := by
  have hsz : (sizeOf e).run P w = .ok 1 w := by
    obtain ⟨i, hi, hs⟩ := Option.map_eq_some_iff.1 hs
    simp [sizeOf, typeInfo, hi, hs]
  have hone : ∀ i a b, xs[i]? = some a → ys[i]? = some b → ((part e (xs.map (Value.int k)).toArray i).run P w = .ok (.int k a) w ∧ (part e (ys.map (Value.int k)).toArray i).run P w = .ok (.int k b) w) := fun i a b ha hb =>
    ⟨run_part_row w he rfl hs _ _ _ (by simp [ha]), run_part_row w he rfl hs _ _ _ (by simp [hb])⟩
  have heq : ∀ a b, (Op.equalIn (d + 1) e (.int k a) (.int k b)).run P w = .ok (a == b) w := fun a b => run_equalIn_int w d e k k a b he
  rw [Op.equalIn]
  simp only [Sem.run_bind, run_underlying ht, Result.andThen_ok, hsz, Nat.mul_one]
  rw [Std.Legacy.Range.forIn_eq_forIn_range']
  simp only [Std.Legacy.Range.size, Nat.sub_zero, Nat.add_sub_cancel, Nat.div_one]
  generalize Op.equalIn (d + 1) e = q at heq ⊢
  suffices H : ∀ m s, s + m = n → (forIn (List.range' s m 1) ((none : Option Bool), PUnit.unit) (fun i __s => do
            let __do_lift ← part e (List.map (Value.int k) xs).toArray i
            let __do_lift_1 ← part e (List.map (Value.int k) ys).toArray i
            let __do_lift ← q __do_lift __do_lift_1
            if (!__do_lift) = true then pure (ForInStep.done (some false, PUnit.unit)) else pure (ForInStep.yield (none, PUnit.unit))) : Sem _).run P w
        = .ok (if (xs.drop s == ys.drop s) = true then none else some false, PUnit.unit) w by
    rw [H n 0 (by omega)]
    simp only [Result.andThen_ok, List.drop_zero]
    cases h : (xs == ys) <;> simp
  intro m
  induction m with
  | zero =>
    intro s hs
    rw [List.drop_eq_nil_of_le (by omega), List.drop_eq_nil_of_le (by omega)]
    simp
  | succ m ih =>
    intro s hs
    have h1 : s < xs.length := by omega
    have h2 : s < ys.length := by omega
    obtain ⟨p1, p2⟩ := hone s xs[s] ys[s] (by simp [h1]) (by simp [h2])
    rw [List.range'_succ, List.forIn_cons]
    simp only [Sem.run_bind, p1, p2, Result.andThen_ok, heq]
    rw [List.drop_eq_getElem_cons h1, List.drop_eq_getElem_cons h2]
    by_cases h : xs[s] = ys[s]
    · simp only [h, beq_self_eq_true, Bool.not_true, Bool.false_eq_true, if_false, Sem.run_pure, Result.andThen_ok, List.cons_beq_cons, Bool.true_and]
      exact ih (s + 1) (by omega)
    · have hb : (xs[s] == ys[s]) = false := by simpa using h
      simp only [hb, Bool.not_false, if_true, Sem.run_pure, Result.andThen_ok, List.cons_beq_cons, Bool.false_and, Bool.false_eq_true, if_false]

theorem run_eql_row (w : World) {t e : TypeId} {n : Nat} {k : IntKind} (ht : P.underlying t = some (.array n e)) (he : P.underlying e = some (.int k)) (hs : (P.info? e).map (·.size) = some 1) (xs ys : List Int) (hx : xs.length = n) (hy : ys.length = n) :
    (binOp .eql t (.agg (xs.map (Value.int k)).toArray) (.agg (ys.map (Value.int k)).toArray)).run P w = .ok (.bool (xs == ys)) w := by
  rw [run_eql_struct, show (10000 : Nat) = 9998 + 2 from rfl, run_equalIn_row w ht he hs xs ys hx hy 9998]
  rfl
theorem run_neq_row (w : World) {t e : TypeId} {n : Nat} {k : IntKind} (ht : P.underlying t = some (.array n e)) (he : P.underlying e = some (.int k)) (hs : (P.info? e).map (·.size) = some 1) (xs ys : List Int) (hx : xs.length = n) (hy : ys.length = n) :
    (binOp .neq t (.agg (xs.map (Value.int k)).toArray) (.agg (ys.map (Value.int k)).toArray)).run P w = .ok (.bool (!(xs == ys))) w := by
  rw [run_neq_struct, show (10000 : Nat) = 9998 + 2 from rfl, run_equalIn_row w ht he hs xs ys hx hy 9998]
  rfl

theorem A32_ints (l : Bs) : A32 l = ((l.map fun x => (x.toNat : Int)).map (Value.int .u8)).toArray := by
  unfold A32
  rw [List.map_map]
  rfl
theorem ints_beq (l m : Bs) : ((l.map fun x => (x.toNat : Int)) == (m.map fun x => (x.toNat : Int))) = (l == m) := by
  rw [Bool.eq_iff_iff, beq_iff_eq, beq_iff_eq]
  constructor
  · intro h
    exact (List.map_inj_right (f := fun x : UInt8 => (x.toNat : Int)) (fun x y e => UInt8.toNat_inj.1 (Int.ofNat_inj.1 e))).1 h
  · rintro rfl; rfl
/-- Two digests compared. -/
theorem run_eql_A32 (l m : Bs) (hl : l.length = 32) (hm : m.length = 32) (w : World) : (binOp .eql 24 (.agg (A32 l)) (.agg (A32 m))).run Tryd.prog w = .ok (.bool (l == m)) w := by
  rw [A32_ints, A32_ints, run_eql_row w Tryd.underlying24 Tryd.underlying5 (by kernel_rfl) _ _ (by simpa using hl) (by simpa using hm), ints_beq]
theorem run_neq_A32 (l m : Bs) (hl : l.length = 32) (hm : m.length = 32) (w : World) : (binOp .neq 24 (.agg (A32 l)) (.agg (A32 m))).run Tryd.prog w = .ok (.bool (!(l == m))) w := by
  rw [A32_ints, A32_ints, run_neq_row w Tryd.underlying24 Tryd.underlying5 (by kernel_rfl) _ _ (by simpa using hl) (by simpa using hm), ints_beq]
end Go.Proofs.YtlgaikknodoilaaDoor.Sh
