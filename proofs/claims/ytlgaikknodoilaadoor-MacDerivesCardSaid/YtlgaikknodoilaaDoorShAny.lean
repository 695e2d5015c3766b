/-
  A region that draws its order, whatever is in it. Its operations are of three kinds: those that act (the numbers S: calls, stores, what makes memory; a load may be counted here, too), which wait for one another in one order; those that read (the numbers D), which yield the same value in every world of a class C; all others, which yield the same value in every world. An act of T may leave the class, if no operation of D can come up behind it. Then one walk, in the order of the text, serves every order.
-/
import Derived.Test.YtlgaikknodoilaaDoorShTail
namespace Go.Proofs.YtlgaikknodoilaaDoor.Sh
set_option linter.unusedVariables false
set_option linter.unusedSimpArgs false
open Go

/-- No way out but the plain one. -/
def NQ : Exit → Act → World → Prop := fun _ _ _ => False
theorem not_letsOut : ¬ LetsOut NQ := fun ⟨_, _, h⟩ => h

section
variable {P : Program} {ops : Array Oper} {C : World → Prop} {S T D : List Nat} {Q : Exit → Act → World → Prop}

def Gives (P : Program) (ops : Array Oper) (C : World → Prop) (o : Oper) (u : Value) (a : Act) : Prop :=
  (Region.wanted o (yielded ops a.tmps) = true ∧ ∀ w, C w → (execOp a.eval o).run P w = .ok (.value u) w ∨ ((execOp a.eval o).run P w = .ok .skip w ∧ u = undef)) ∨
  (Region.wanted o (yielded ops a.tmps) = false ∧ u = undef)

def Does (P : Program) (ops : Array Oper) (o : Oper) (a : Act) (w : World) (next : Act → World → Prop) : Prop :=
  if Region.wanted o (yielded ops a.tmps) then o.wp P a w next NQ else next (a.put o.dst undef) w

/-- Is one of D among them? -/
def Needs (D : List Nat) (r : List (Oper × Nat)) : Prop := ∃ p ∈ r, D.contains p.2 = true
/-- Every world. -/
def Every : World → Prop := fun _ => True
/-- What an act must leave. -/
def ActLeft (C : World → Prop) (T D : List Nat) (j : Nat) (r : List (Oper × Nat)) (w w' : World) : Prop := if T.contains j then (Needs D r → C w') else (C w → C w')

def Lex (P : Program) (ops : Array Oper) (C : World → Prop) (S T D : List Nat) (Q : Exit → Act → World → Prop) : List (Oper × Nat) → Act → World → Prop
  | [], a, w => Q .normal a w
  | (o, j) :: r, a, w => if S.contains j then Does P ops o a w (fun a' w' => ActLeft C T D j r w w' ∧ Lex P ops C S T D Q r a' w')
      else ∃ u, Gives P ops (if D.contains j then C else Every) o u a ∧ Lex P ops C S T D Q r (a.put o.dst u) w

theorem Needs.cons {x : Oper × Nat} {r : List (Oper × Nat)} (h : Needs D r) : Needs D (x :: r) := let ⟨p, hp, hd⟩ := h; ⟨p, List.mem_cons_of_mem _ hp, hd⟩
theorem Needs.of_cons {x : Oper × Nat} {r : List (Oper × Nat)} (h : Needs D (x :: r)) (hx : D.contains x.2 = false) : Needs D r := by
  obtain ⟨p, hp, hd⟩ := h
  rcases List.mem_cons.1 hp with rfl | hp
  · rw [hx] at hd; cases hd
  · exact ⟨p, hp, hd⟩
theorem Needs.perm {r r' : List (Oper × Nat)} (h : Needs D r) (hr : ∀ p ∈ r, p ∈ r') : Needs D r' := let ⟨p, hp, hd⟩ := h; ⟨p, hr p hp, hd⟩
theorem ActLeft.less {j : Nat} {r r' : List (Oper × Nat)} {w w' : World} (h : ActLeft C T D j r w w') (hr : ∀ p ∈ r', p ∈ r) : ActLeft C T D j r' w w' := by
  unfold ActLeft at *
  split
  · rename_i ht; rw [if_pos ht] at h; exact fun hn => h (hn.perm hr)
  · rename_i ht; rw [if_neg ht] at h; exact h
theorem ActLeft.out {j : Nat} {r : List (Oper × Nat)} {w w' : World} (h : ActLeft C T D j r w w') (hC : Needs D r → C w) : Needs D r → C w' := by
  unfold ActLeft at h
  split at h
  · exact h
  · exact fun hn => h (hC hn)

/-- a' is a but for the temporary d (and for what is deferred). -/
def Sim (d : Option Tmp) (a a' : Act) : Prop := ∃ v df, a' = ({ a with defers := df } : Act).put d v

theorem put_defers (a : Act) (df : List Deferred) (d : Option Tmp) (v : Value) : ({ a with defers := df } : Act).put d v = { a.put d v with defers := df } := by cases d <;> rfl

theorem Sim.execOp {d : Option Tmp} {a a' : Act} (h : Sim d a a') (o : Oper) (hs : ∀ cs b, o.op ≠ .select cs b) (hd : ∀ t, d = some t → t ∉ o.looksAt ops) : execOp a'.eval o = execOp a.eval o := by
  obtain ⟨v, df, rfl⟩ := h
  rw [execOp_put (ops := ops) o hs _ d v hd]
  rfl
theorem Sim.wanted {d : Option Tmp} {a a' : Act} (h : Sim d a a') (o : Oper) (hd : ∀ t, d = some t → t ∉ o.looksAt ops) : Region.wanted o (yielded ops a'.tmps) = Region.wanted o (yielded ops a.tmps) := by
  obtain ⟨v, df, rfl⟩ := h
  exact wanted_put (ops := ops) o _ d v hd
theorem Sim.gives {d : Option Tmp} {a a' : Act} (h : Sim d a a') {o : Oper} {u : Value} (hs : ∀ cs b, o.op ≠ .select cs b) (hd : ∀ t, d = some t → t ∉ o.looksAt ops) : Gives P ops C o u a' ↔ Gives P ops C o u a := by
  unfold Gives
  rw [h.execOp o hs hd, h.wanted o hd]
theorem Sim.put (a : Act) (d : Option Tmp) (v : Value) : Sim d a (a.put d v) := ⟨v, a.defers, rfl⟩

theorem Gives.unique {o : Oper} {a : Act} {u u' : Value} {w : World} (hC : C w) (h : Gives P ops C o u a) (h' : Gives P ops C o u' a) : u = u' := by
  rcases h with ⟨hw, h⟩ | ⟨hw, rfl⟩ <;> rcases h' with ⟨hw', h'⟩ | ⟨hw', rfl⟩
  · rcases h w hC with e | ⟨e, rfl⟩ <;> rcases h' w hC with e' | ⟨e', rfl⟩ <;> rw [e] at e' <;> first | rfl | (injection e' with e1; injection e1) | cases e'
  · rw [hw] at hw'; cases hw'
  · rw [hw] at hw'; cases hw'
  · rfl

theorem Does.mono {o : Oper} {a : Act} {w : World} {K K' : Act → World → Prop} (h : ∀ a w, K a w → K' a w) (hh : Does P ops o a w K) : Does P ops o a w K' := by
  unfold Does at *
  split
  · rename_i hw; rw [if_pos hw] at hh; exact Oper.wp_mono h hh
  · rename_i hw; rw [if_neg hw] at hh; exact h _ _ hh

theorem Does.strong {o : Oper} {a : Act} {w : World} {K : Act → World → Prop} (hh : Does P ops o a w K) : Does P ops o a w (fun a' w' => K a' w' ∧ Sim o.dst a a') := by
  unfold Does at *
  split
  · rename_i hw
    rw [if_pos hw] at hh
    unfold Oper.wp at *
    generalize (execOp a.eval o).run P w = r at *
    cases r with
    | ok n w' =>
      cases n <;> simp only [Oper.upon] at hh ⊢
      case value v => exact ⟨hh, Sim.put _ _ _⟩
      case skip => exact ⟨hh, Sim.put _ _ _⟩
      case defer d => exact ⟨hh, _, _, rfl⟩
      case enter f args => exact Calls.mono hh (fun e w'' he => by cases e <;> first | exact ⟨he, Sim.put _ _ _⟩ | exact he)
      case row r args => exact Rows.mono hh (fun _ _ he => ⟨he, Sim.put _ _ _⟩)
    | halt x w' => cases x <;> simp only [Oper.upon] at hh ⊢ <;> exact hh
  · rename_i hw
    rw [if_neg hw] at hh
    exact ⟨hh, Sim.put _ _ _⟩

theorem Does.outcome {o : Oper} {a : Act} {w : World} {K : Act → World → Prop} (hh : Does P ops o a w K) : ∃ a' w', K a' w' := by
  unfold Does at hh
  split at hh
  · unfold Oper.wp at hh
    generalize (execOp a.eval o).run P w = r at *
    cases r with
    | ok n w' =>
      cases n <;> simp only [Oper.upon] at hh
      case value v => exact ⟨_, _, hh⟩
      case skip => exact ⟨_, _, hh⟩
      case defer d => exact ⟨_, _, hh⟩
      case enter f args =>
        obtain ⟨e, w'', fr, hr, _⟩ := hh []
        cases e with
        | returned v => exact ⟨_, _, hr⟩
        | panicked ch => exact hr.elim
        | outgrown => exact (not_letsOut hr).elim
      case row r args =>
        obtain ⟨v, w'', hr, _⟩ := hh default []
        exact ⟨_, _, hr⟩
    | halt x w' => cases x <;> simp only [Oper.upon] at hh <;> exact hh.elim
  · exact ⟨_, _, hh⟩

/-- Whether the temporary d is already written makes no difference to o. -/
theorem Does.put {o : Oper} {a : Act} {w : World} {d : Option Tmp} {u : Value} {K : Act → World → Prop} (hs : ∀ cs b, o.op ≠ .select cs b) (hd : ∀ t, d = some t → t ∉ o.looksAt ops) (hne : ∀ t, d = some t → o.dst ≠ some t) :
    Does P ops o (a.put d u) w K ↔ Does P ops o a w (fun a' w' => K (a'.put d u) w') := by
  unfold Does
  rw [wanted_put (ops := ops) o a d u hd]
  split
  · unfold Oper.wp
    rw [execOp_put (ops := ops) o hs a d u hd]
    generalize (execOp a.eval o).run P w = r
    have pc : ∀ v, ((a.put d u).put o.dst v) = ((a.put o.dst v).put d u) := fun v => Act.put_comm a u v hne
    cases r with
    | ok n w' =>
      cases n <;> simp only [Oper.upon, pc]
      case defer df =>
        have : (a.put d u).defers = a.defers := by cases d <;> rfl
        show K (({ a.put d u with defers := df :: (a.put d u).defers } : Act).put o.dst undef) w' ↔ _
        rw [this, ← put_defers, Act.put_comm _ _ _ hne]
      case enter f args => exact Iff.rfl
    | halt x w' => cases x <;> simp only [Oper.upon] <;> rfl
  · rw [Act.put_comm a u undef hne]

theorem swap {x j : Oper} {i k : Nat} {r : List (Oper × Nat)} {a : Act} {w : World} (hx : ∀ cs b, x.op ≠ .select cs b) (hj : ∀ cs b, j.op ≠ .select cs b) (hap : x.apart ops j = true) (hS : ¬ (S.contains i = true ∧ S.contains k = true))
    (hT : ¬ (D.contains i = true ∧ T.contains k = true)) (hC : Needs D ((x, i) :: (j, k) :: r) → C w) (h : Lex P ops C S T D Q ((x, i) :: (j, k) :: r) a w) : Lex P ops C S T D Q ((j, k) :: (x, i) :: r) a w := by
  obtain ⟨h1, h2, h3⟩ := Oper.apart_spec hap
  have h2' : ∀ t, j.dst = some t → x.dst ≠ some t := fun t e e' => h2 t e' e
  unfold Lex at h ⊢
  unfold Lex at h ⊢
  cases hi : S.contains i <;> cases hk : S.contains k
  · simp only [hi, hk, Bool.false_eq_true, if_false] at h ⊢
    obtain ⟨u, hu, u', hu', hr⟩ := h
    refine ⟨u', ((Sim.put a x.dst u).gives hj h1).1 hu', u, ((Sim.put a j.dst u').gives hx h3).2 hu, ?_⟩
    rw [Act.put_comm a u' u h2']; exact hr
  · simp only [hi, hk, Bool.false_eq_true, if_false, if_true] at h ⊢
    obtain ⟨u, hu, hd⟩ := h
    have := ((Does.put hj h1 h2).1 hd).strong
    refine this.mono fun a' w' ⟨⟨hc, hr⟩, hs⟩ => ⟨?_, u, (hs.gives hx h3).2 hu, hr⟩
    unfold ActLeft at hc ⊢
    cases hdi : D.contains i with
    | true => 
      have hkt : T.contains k = false := by
        cases ht : T.contains k with
        | false => rfl
        | true => exact absurd ⟨hdi, ht⟩ hT
      simp only [hkt, Bool.false_eq_true, if_false] at hc ⊢
      exact hc
    | false =>
      split
      · rename_i ht; rw [if_pos ht] at hc; exact fun hn => hc (hn.of_cons hdi)
      · rename_i ht; rw [if_neg ht] at hc; exact hc
  · simp only [hi, hk, Bool.false_eq_true, if_false, if_true] at h ⊢
    have hst := h.strong
    obtain ⟨a0, w0, ⟨_, u0, hu0, _⟩, hs0⟩ := hst.outcome
    have hg0 := (hs0.gives hj h1).1 hu0
    refine ⟨u0, hg0, (Does.put hx h3 h2').2 ?_⟩
    refine hst.mono fun a' w' ⟨⟨hc, u, hu, hr⟩, hs⟩ => ⟨hc.less (fun p hp => List.mem_cons_of_mem _ hp), ?_⟩
    have hCw : (if D.contains k then C else Every) w := by
      split
      · rename_i hd; exact hC ⟨(j, k), by simp, hd⟩
      · trivial
    obtain rfl := Gives.unique hCw hg0 ((hs.gives hj h1).1 hu)
    exact hr
  · exact absurd ⟨hi, hk⟩ hS

theorem lex_mono {x : Oper × Nat} {r r' : List (Oper × Nat)} {a : Act} {w : World} (hC : Needs D (x :: r) → C w) (hr : ∀ p, p ∈ r ↔ p ∈ r')
    (h : ∀ a w, (Needs D r → C w) → Lex P ops C S T D Q r a w → Lex P ops C S T D Q r' a w) (hh : Lex P ops C S T D Q (x :: r) a w) : Lex P ops C S T D Q (x :: r') a w := by
  obtain ⟨o, j⟩ := x
  unfold Lex at hh ⊢
  split
  · rename_i hs; rw [if_pos hs] at hh
    exact hh.mono fun a' w' ⟨hc, hl⟩ => ⟨hc.less (fun p hp => (hr p).2 hp), h a' w' (hc.out fun hn => hC hn.cons) hl⟩
  · rename_i hs; rw [if_neg hs] at hh; obtain ⟨u, hu, hl⟩ := hh; exact ⟨u, hu, h _ _ (fun hn => hC hn.cons) hl⟩

theorem bubble {j : Oper} {k : Nat} (hj : ∀ cs b, j.op ≠ .select cs b) {post : List (Oper × Nat)} : ∀ (pre : List (Oper × Nat)) (a : Act) (w : World),
    (∀ x ∈ pre, (∀ cs b, x.1.op ≠ .select cs b) ∧ x.1.apart ops j = true ∧ ¬ (S.contains x.2 = true ∧ S.contains k = true) ∧ ¬ (D.contains x.2 = true ∧ T.contains k = true)) → (Needs D (pre ++ (j, k) :: post) → C w) →
    Lex P ops C S T D Q (pre ++ (j, k) :: post) a w → Lex P ops C S T D Q ((j, k) :: (pre ++ post)) a w
  | [], _, _, _, _, h => h
  | (x, i) :: pre, a, w, hp, hC, h => by
    have hx := hp (x, i) (by simp)
    have hm : ∀ p, p ∈ pre ++ (j, k) :: post ↔ p ∈ (j, k) :: (pre ++ post) := fun p => by simp only [List.mem_append, List.mem_cons]; constructor <;> rintro (h | h | h) <;> simp [h]
    have h' : Lex P ops C S T D Q ((x, i) :: (j, k) :: (pre ++ post)) a w :=
      lex_mono hC hm (fun a w hC hl => bubble hj pre a w (fun y hy => hp y (by simp [hy])) hC hl) h
    exact swap hx.1 hj hx.2.1 hx.2.2.1 hx.2.2.2 (fun hn => hC (hn.perm fun p hp => by
      rcases List.mem_cons.1 hp with rfl | hp
      · simp
      · exact List.mem_cons_of_mem _ ((hm p).2 hp))) h'

/-- Does j wait for i, over at most n steps? -/
def reachB (ops : Array Oper) : Nat → Nat → Nat → Bool
  | 0, _, _ => false
  | n + 1, j, i => match ops[j]? with
    | some o => o.after.any fun e => Region.binds .any e && (e.on == i || (decide (i < e.on) && reachB ops n e.on i))
    | none => false

def anyB (ops : Array Oper) (S T D : List Nat) : Bool :=
  Region.noSelect ops && (List.range ops.size).all fun j => match ops[j]? with
    | some oj => (oj.after.all fun e => !Region.binds .any e || decide (e.on < j)) && (List.range j).all fun i => match ops[i]? with
      | some oi => (oi.apart ops oj && !(S.contains i && S.contains j) && !(D.contains i && T.contains j)) || reachB ops 12 j i
      | none => false
    | none => false

theorem reach_listed {listed : Array Bool} (inv : HeadInv .any ops ops.size listed) : ∀ (n j i : Nat) (oj : Oper), ops[j]? = some oj → (∀ e ∈ oj.after, Region.binds .any e = true → listed.getD e.on false = true) → reachB ops n j i = true → listed.getD i false = true
  | 0, _, _, _, _, _, h => by cases h
  | n + 1, j, i, oj, hj, hd, h => by
    simp only [reachB, hj] at h
    obtain ⟨e, he, hb⟩ := Array.any_eq_true'.1 h
    simp only [Bool.and_eq_true, Bool.or_eq_true, beq_iff_eq, decide_eq_true_eq] at hb
    obtain ⟨hb1, hb2⟩ := hb
    have hl := hd e he hb1
    rcases hb2 with rfl | ⟨_, hr⟩
    · exact hl
    · cases ho : ops[e.on]? with
      | none => 
        cases n with
        | zero => simp [reachB] at hr
        | succ n => simp [reachB, ho] at hr
      | some o => exact reach_listed inv n e.on i o ho (inv.closed e.on o ho hl) hr

theorem anyB_spec (h : anyB ops S T D = true) : Region.noSelect ops = true ∧ ∀ j oj, ops[j]? = some oj → (∀ e ∈ oj.after, Region.binds .any e = true → e.on < j) ∧
    ∀ i oi, i < j → ops[i]? = some oi → (oi.apart ops oj = true ∧ ¬ (S.contains i = true ∧ S.contains j = true) ∧ ¬ (D.contains i = true ∧ T.contains j = true)) ∨ reachB ops 12 j i = true := by
  simp only [anyB, Bool.and_eq_true] at h
  refine ⟨h.1, fun j oj hj => ?_⟩
  have hlt : j < ops.size := (Array.getElem?_eq_some_iff.1 hj).1
  have h1 := List.all_eq_true.1 h.2 j (List.mem_range.2 hlt)
  simp only [hj, Bool.and_eq_true] at h1
  refine ⟨fun e he hb => ?_, fun i oi hi hoi => ?_⟩
  · have := Array.all_eq_true'.1 h1.1 e he
    simpa [hb] using this
  · have := List.all_eq_true.1 h1.2 i (List.mem_range.2 hi)
    simp only [hoi, Bool.or_eq_true, Bool.and_eq_true] at this
    rcases this with ⟨⟨ha, hn⟩, hn2⟩ | hr
    · exact .inl ⟨ha, (fun ⟨e1, e2⟩ => by rw [e1, e2] at hn; cases hn), (fun ⟨e1, e2⟩ => by rw [e1, e2] at hn2; cases hn2)⟩
    · exact .inr hr

theorem getD_bool {listed : Array Bool} {i : Nat} (h : listed.getD i false = false) (hi : i < listed.size) : listed.getD i true = false := by
  simp [hi] at h ⊢; exact h

theorem set_unlisted {listed : Array Bool} {i j : Nat} (h : (listed.setIfInBounds j true).getD i true = false) : i ≠ j ∧ listed.getD i true = false := by
  by_cases hij : j = i
  · subst hij
    rcases Nat.lt_or_ge j listed.size with hl | hl
    · simp [hl] at h
    · simp [Array.getElem?_eq_none, hl] at h
  · exact ⟨fun e => hij e.symm, by rw [getD_set_ne true hij] at h; exact h⟩

theorem any_of_lex (hB : anyB ops S T D = true) : ∀ (fuel : Nat) (rem : List (Oper × Nat)) (listed : Array Bool) (a : Act) (w : World), HeadInv .any ops ops.size listed →
    (∀ p ∈ rem, ops[p.2]? = some p.1 ∧ listed.getD p.2 true = false) → rem.Pairwise (fun p q => p.2 < q.2) → (∀ j o, ops[j]? = some o → listed.getD j true = false → (o, j) ∈ rem) → rem.length = fuel → (Needs D rem → C w) →
    Lex P ops C S T D Q rem a w → wpAny P .any ops Q fuel listed a w := by
  obtain ⟨hsel, hB⟩ := anyB_spec hB
  have hns := Region.noSelect_spec hsel
  intro fuel
  induction fuel with
  | zero =>
    intro rem listed a w inv hrem hpw hall hlen hC h
    have : rem = [] := List.length_eq_zero_iff.1 hlen
    subst this
    refine ⟨List.eq_nil_iff_forall_not_mem.2 fun j hj => ?_, h⟩
    obtain ⟨hun, oj, hoj, _⟩ := mem_ready.1 hj
    cases hall j oj hoj hun
  | succ fuel ih =>
    intro rem listed a w inv hrem hpw hall hlen hC h
    refine ⟨fun hr => ?_, fun j hj => ?_⟩
    · exfalso
      match rem, hlen with
      | (o, k) :: rest, _ =>
        obtain ⟨hok, hun⟩ := hrem (o, k) (by simp)
        have hks : k < ops.size := (Array.getElem?_eq_some_iff.1 hok).1
        have hmem : k ∈ Region.ready .any ops listed := by
          refine mem_ready.2 ⟨hun, o, hok, fun e he hb => ?_⟩
          have hlt := (hB k o hok).1 e he hb
          have hes : e.on < listed.size := by rw [inv.size]; omega
          cases hl : listed.getD e.on false with
          | true => rfl
          | false =>
            have hin := hall e.on ops[e.on] (Array.getElem?_eq_getElem (by omega)) (getD_bool hl hes)
            rcases List.mem_cons.1 hin with e1 | e1
            · have : e.on = k := (Prod.mk.inj e1).2
              omega
            · have : k < e.on := (List.pairwise_cons.1 hpw).1 _ e1
              omega
        rw [hr] at hmem
        cases hmem
    · obtain ⟨hun, oj, hoj, hdeps⟩ := mem_ready.1 hj
      have hjs : j < ops.size := (Array.getElem?_eq_some_iff.1 hoj).1
      obtain ⟨pre, post, rfl⟩ := List.append_of_mem (hall j oj hoj hun)
      have hpre : ∀ x ∈ pre, x.2 < j := fun x hx => (List.pairwise_append.1 hpw).2.2 x hx (oj, j) (by simp)
      have hpost : ∀ x ∈ post, j < x.2 := fun x hx => (List.pairwise_cons.1 (List.pairwise_append.1 hpw).2.1).1 x hx
      have hl := bubble (fun cs b => hns j oj cs b hoj) pre a w (fun x hx => by
        obtain ⟨hxo, hxu⟩ := hrem x (by simp [hx])
        refine ⟨fun cs b => hns x.2 x.1 cs b hxo, ?_⟩
        rcases (hB j oj hoj).2 x.2 x.1 (hpre x hx) hxo with h1 | h1
        · exact h1
        · have := reach_listed inv 12 j x.2 oj hoj hdeps h1
          rw [getD_both hxu] at this
          cases this) hC h
      have next : ∀ a' w', (Needs D (pre ++ post) → C w') → Lex P ops C S T D Q (pre ++ post) a' w' → wpAny P .any ops Q fuel (listed.setIfInBounds j true) a' w' := fun a' w' hC' hl' => by
        refine ih (pre ++ post) _ a' w' (inv.set hj hjs) (fun p hp => ?_) ?_ (fun i o ho hu => ?_) ?_ hC' hl'
        · have hne : p.2 ≠ j := by
            rcases List.mem_append.1 hp with h1 | h1
            · have := hpre p h1; omega
            · have := hpost p h1; omega
          obtain ⟨h1, h2⟩ := hrem p (by rcases List.mem_append.1 hp with h1 | h1 <;> simp [h1])
          exact ⟨h1, by rw [getD_set_ne true (Ne.symm hne)]; exact h2⟩
        · exact hpw.sublist (List.Sublist.append_left (List.sublist_cons_self _ _) _)
        · obtain ⟨hne, hu'⟩ := set_unlisted hu
          have := hall i o ho hu'
          simp only [List.mem_append, List.mem_cons] at this ⊢
          rcases this with h1 | h1 | h1
          · exact .inl h1
          · exact absurd (Prod.mk.inj h1).2 hne
          · exact .inr h1
        · simp only [List.length_append, List.length_cons] at hlen ⊢; omega
      have hCr : Needs D (pre ++ post) → C w := fun hn => hC (hn.perm fun p hp => by rcases List.mem_append.1 hp with h1 | h1 <;> simp [h1])
      unfold wpOp
      rw [hoj]
      unfold Lex at hl
      split at hl
      · unfold Does at hl
        split at hl
        · rename_i hw
          simp only [hw, if_true]
          refine .inl ?_
          have := Oper.wp_mono (K' := wpAny P .any ops Q fuel (listed.setIfInBounds j true)) (fun a' w' ⟨hc, hx⟩ => next a' w' (hc.out hCr) hx) hl
          unfold Oper.wp at *
          generalize (execOp a.eval oj).run P w = r at *
          cases r with
          | ok n w' =>
            cases n <;> simp only [Oper.upon] at this ⊢ <;> first | exact this | skip
            exact Calls.mono this (fun e w'' he => by cases e <;> first | exact he | exact he.elim | exact (not_letsOut he).elim)
          | halt x w' => cases x <;> simp only [Oper.upon] at this ⊢ <;> exact this.elim
        · rename_i hw
          simp only [hw]
          exact next _ _ (hl.1.out hCr) hl.2
      · obtain ⟨u, hu, hx⟩ := hl
        have hx' := next _ w hCr hx
        rcases hu with ⟨hw, hu⟩ | ⟨hw, rfl⟩
        · simp only [hw, if_true]
          refine .inl ?_
          unfold Oper.wp
          have hCw : (if D.contains j then C else Every) w := by
            split
            · rename_i hd; exact hC ⟨(oj, j), by simp, hd⟩
            · trivial
          rcases hu w hCw with e | ⟨e, rfl⟩ <;> rw [e] <;> exact hx'
        · simp only [hw]; exact hx'

theorem wp_region_lex {id : Nat} {a : Act} {w : World} {l : List Oper} (C : World → Prop) (S T D : List Nat) (hm : P.follows .mixedOrders = true) (hB : anyB l.toArray S T D = true) (hC : Needs D l.zipIdx → C w.drew)
    (h : Lex P l.toArray C S T D Q l.zipIdx a w.drew) : (Code.region id l.toArray true).wp P Q a w := by
  refine wp_region_any hm ?_
  refine any_of_lex hB _ l.zipIdx _ a _ ⟨by simp, fun j oj _ hl => (by rw [getD_replicate_false] at hl; cases hl), fun t ht ht' => absurd ht' (by omega)⟩ (fun p hp => ?_) ?_ (fun j o ho _ => ?_) (by simp) hC h
  · obtain ⟨h1, h2⟩ := List.mem_zipIdx' hp
    refine ⟨by simp [h2], getD_in (by simpa using h1) (getD_replicate_false _ _)⟩
  · have : l.zipIdx.Pairwise (fun p q => p.2 < q.2) := by
      rw [List.pairwise_iff_getElem]
      intro i j hi hj hij
      simp only [List.getElem_zipIdx]
      omega
    exact this
  · rw [List.mem_zipIdx_iff_getElem?]; simpa using ho


/-- Operations that enter nothing. -/
def calm (o : Oper) : Bool :=
  match o.op with
  | .move _ | .assign _ | .pick .. | .load .. | .nilCheck _ | .binOp .. | .unOp .. | .convert .. | .slice .. | .fieldAddr .. | .field .. | .indexAddr .. | .index .. | .extract .. | .build .. | .makeFunc .. => true
  | .call c => match c.callee with
    | .builtin .len | .builtin .cap | .builtin .min | .builtin .max => true
    | _ => false
  | _ => false

theorem run_v {s : Sem Value} {w w' : World} {n : Next} (h : Sem.run P (do pure (Next.value (← s))) w = .ok n w') : ∃ v, n = .value v := by
  rw [Sem.run_bind] at h
  cases hr : s.run P w with
  | ok v w1 =>
    rw [hr] at h
    simp [Result.andThen] at h
    exact ⟨v, h.1.symm⟩
  | halt x w1 => rw [hr] at h; simp [Result.andThen] at h

theorem run_v' {s : Sem Value} {w w' : World} {n : Next} (h : (s.run P w).andThen (fun a w' => Result.ok (Next.value a) w') = .ok n w') : ∃ v, n = .value v := by
  cases hr : s.run P w with
  | ok v w1 =>
    rw [hr] at h
    simp [Result.andThen] at h
    exact ⟨v, h.1.symm⟩
  | halt x w1 => rw [hr] at h; simp [Result.andThen] at h

theorem vo_bind {α : Type} {s : Sem α} {f : α → Sem Next} (h : ∀ a w n w', (f a).run P w = .ok n w' → ∃ v, n = .value v) (w : World) (n : Next) (w' : World) (hr : (s >>= f).run P w = .ok n w') : ∃ v, n = .value v := by
  rw [Sem.run_bind] at hr
  cases hs : s.run P w with
  | ok v w1 => rw [hs] at hr; exact h v w1 n w' hr
  | halt x w1 => rw [hs] at hr; simp [Result.andThen] at hr

theorem calm_run {o : Oper} (hc : calm o = true) {e : Operand → Value} {w w' : World} {n : Next} (h : (execOp e o).run P w = .ok n w') : ∃ v, n = .value v := by
  unfold calm at hc
  unfold execOp at h
  split at hc <;> rename_i ho <;> simp only [ho] at h
  case h_1 => exact ⟨_, by simp at h; exact h.1.symm⟩
  case h_2 => exact ⟨_, by simp at h; exact h.1.symm⟩
  case h_3 =>
    rw [Sem.run_bind] at h
    rename_i c a b
    cases hr : (asBool (e c)).run P w with
    | ok v w1 => rw [hr] at h; simp [Result.andThen] at h; exact ⟨_, h.1.symm⟩
    | halt x w1 => rw [hr] at h; simp [Result.andThen] at h
  case h_5 =>
    split at h
    · simp [runtimePanic] at h
    · simp [runtimePanic] at h
    · simp [runtimePanic] at h
    · split at h
      · simp [runtimePanic] at h
      · refine vo_bind (fun p => vo_bind fun b => ?_) w n w' h
        intro w n w' h
        split at h
        · simp [unsupported] at h
        · exact ⟨_, by simp at h; exact h.1.symm⟩
      · exact ⟨_, by simp at h; exact h.1.symm⟩
    · exact ⟨_, by simp at h; exact h.1.symm⟩
  case h_17 =>
    split at hc <;> rename_i hb <;> first | cases hc | skip
    all_goals simp only [resolve, hb, Sem.run_bind, Sem.run_pure, Result.andThen_ok, invoke, builtin] at h
    all_goals exact run_v' h
  case h_18 => cases hc
  all_goals exact run_v h

theorem lex_seg {C' : World → Prop} : ∀ (l rest : List (Oper × Nat)) (a : Act) (w : World), (l.all fun p => calm p.1 && !(S.contains p.2)) = true → (∀ p ∈ l, ∀ w, (if D.contains p.2 then C else Every) w → C' w) →
    wpQuiet P ops C' (fun a' => Lex P ops C S T D Q rest a' w) (l.map Prod.fst) a → Lex P ops C S T D Q (l ++ rest) a w
  | [], _, _, _, _, _, h => h
  | (o, j) :: l, rest, a, w, hl, hcl, h => by
    simp only [List.all_cons, Bool.and_eq_true, Bool.not_eq_true'] at hl
    obtain ⟨⟨hc, hS⟩, hl⟩ := hl
    simp only [List.map_cons, wpQuiet] at h
    simp only [List.cons_append, Lex, hS, Bool.false_eq_true, if_false]
    have hcl' : ∀ p ∈ l, ∀ w, (if D.contains p.2 then C else Every) w → C' w := fun p hp => hcl p (List.mem_cons_of_mem _ hp)
    by_cases hw : Region.wanted o (yielded ops a.tmps) = true
    · rw [if_pos hw] at h
      obtain ⟨v, hv, hr⟩ := h
      refine ⟨v, .inl ⟨hw, fun w' hC => ?_⟩, lex_seg l rest _ w (by simpa using hl) hcl' hr⟩
      have := hv w' (hcl (o, j) (by simp) w' hC)
      unfold Oper.quietAt at this
      cases hrun : (execOp a.eval o).run P w' with
      | ok n w2 =>
        rw [hrun] at this
        obtain ⟨u, rfl⟩ := calm_run hc hrun
        simp only [Oper.quietUpon] at this
        obtain ⟨rfl, rfl⟩ := this
        exact .inl rfl
      | halt x w2 => rw [hrun] at this; exact this.elim
    · rw [if_neg hw] at h
      exact ⟨undef, .inr ⟨by simpa using hw, rfl⟩, lex_seg l rest _ w (by simpa using hl) hcl' h⟩

/-- The worlds of a class, as a type: so that the quiet walk's simp sees through it. -/
structure In (F : World → Prop) where
  val : World
  prop : F val

/-- The next k operations yield the same in every world. -/
theorem lex_blind (k : Nat) {L : List (Oper × Nat)} {a : Act} {w : World} (hl : ((L.take k).all fun p => calm p.1 && !(S.contains p.2)) = true)
    (h : wpQuiet P ops (fun w' => ∃ x : World, w' = x) (fun a' => Lex P ops C S T D Q (L.drop k) a' w) ((L.take k).map Prod.fst) a) : Lex P ops C S T D Q L a w := by
  have := lex_seg (P := P) (ops := ops) (C := C) (S := S) (T := T) (D := D) (Q := Q) (L.take k) (L.drop k) a w hl (fun _ _ w' _ => ⟨w', rfl⟩) h
  rwa [List.take_append_drop] at this
/-- The next k operations are of D: they yield the same in every world of the class. -/
theorem lex_reads {F : World → Prop} (k : Nat) {L : List (Oper × Nat)} {a : Act} {w : World} (hl : ((L.take k).all fun p => calm p.1 && !(S.contains p.2)) = true) (hD : ((L.take k).all fun p => D.contains p.2) = true)
    (h : wpQuiet P ops (fun w' => ∃ x : In F, w' = x.val) (fun a' => Lex P ops F S T D Q (L.drop k) a' w) ((L.take k).map Prod.fst) a) : Lex P ops F S T D Q L a w := by
  have := lex_seg (P := P) (ops := ops) (C := F) (S := S) (T := T) (D := D) (Q := Q) (L.take k) (L.drop k) a w hl (fun p hp w' hw => by
    have := List.all_eq_true.1 hD p hp
    rw [this] at hw
    exact ⟨⟨w', hw⟩, rfl⟩) h
  rwa [List.take_append_drop] at this

/-- The next operation acts. -/
theorem lex_act {o : Oper} {j : Nat} {r : List (Oper × Nat)} {a : Act} {w : World} (hS : S.contains j = true) (hw : Region.wanted o (yielded ops a.tmps) = true)
    (h : ∀ K : Act → World → Prop, (∀ a' w', ActLeft C T D j r w w' → Lex P ops C S T D Q r a' w' → K a' w') → o.wp P a w K NQ) : Lex P ops C S T D Q ((o, j) :: r) a w := by
  unfold Lex Does
  rw [if_pos hS, if_pos hw]
  exact h _ fun a' w' h1 h2 => ⟨h1, h2⟩
/-- The next operation is passed over. -/
theorem lex_pass {o : Oper} {j : Nat} {r : List (Oper × Nat)} {a : Act} {w : World} (hw : Region.wanted o (yielded ops a.tmps) = false)
    (hC : Needs D r → C w) (h : Lex P ops C S T D Q r (a.put o.dst undef) w) : Lex P ops C S T D Q ((o, j) :: r) a w := by
  unfold Lex Does Gives
  split
  · rw [if_neg (by rw [hw]; exact Bool.false_ne_true)]
    refine ⟨?_, h⟩
    unfold ActLeft
    split
    · exact hC
    · exact fun h => h
  · exact ⟨undef, .inr ⟨hw, rfl⟩, h⟩
theorem lex_nil {a : Act} {w : World} (h : Q .normal a w) : Lex P ops C S T D Q [] a w := h
theorem ActLeft.keep {j : Nat} {r : List (Oper × Nat)} {w w' : World} (ht : T.contains j = false) (h : C w → C w') : ActLeft C T D j r w w' := by unfold ActLeft; rw [if_neg (by rw [ht]; exact Bool.false_ne_true)]; exact h
theorem needs_none {r : List (Oper × Nat)} (h : (r.any fun p => D.contains p.2) = false) : ¬ Needs D r := fun ⟨p, hp, hd⟩ => by
  have := List.any_eq_false.1 h p hp
  exact this hd
theorem ActLeft.last {j : Nat} {r : List (Oper × Nat)} {w w' : World} (ht : T.contains j = true) (h : (r.any fun p => D.contains p.2) = false) : ActLeft C T D j r w w' := by
  unfold ActLeft; rw [if_pos ht]; exact fun hn => absurd hn (needs_none h)
end
end Go.Proofs.YtlgaikknodoilaaDoor.Sh
