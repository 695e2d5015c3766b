/- A region that draws its order, with a making of memory that may come ahead of a call or behind it. -/
import Derived.Test.YtlgaikknodoilaaDoorShAny
namespace Go.Proofs.YtlgaikknodoilaaDoor.Sh
set_option linter.unusedVariables false
set_option linter.unusedSimpArgs false
open Go
section
variable {P : Program} {ops : Array Oper} {C : World → Prop} {S T D : List Nat} {Q : Exit → Act → World → Prop}

def SpecL (ops : Array Oper) (S T D : List Nat) (listed : Array Bool) : Prop := ∀ j oj, ops[j]? = some oj → listed.getD j true = false → (∀ e ∈ oj.after, Region.binds .any e = true → e.on < j) ∧
  ∀ i oi, i < j → listed.getD i true = false → ops[i]? = some oi → (oi.apart ops oj = true ∧ ¬ (S.contains i = true ∧ S.contains j = true) ∧ ¬ (D.contains i = true ∧ T.contains j = true)) ∨ reachB ops 12 j i = true
theorem SpecL.set {listed : Array Bool} {k : Nat} (h : SpecL ops S T D listed) : SpecL ops S T D (listed.setIfInBounds k true) := fun j oj ho hj => by
  obtain ⟨h1, h2⟩ := h j oj ho (set_unlisted hj).2
  exact ⟨h1, fun i oi hi hu => h2 i oi hi (set_unlisted hu).2⟩

theorem any_of_lexL (hsel : Region.noSelect ops = true) : ∀ (fuel : Nat) (rem : List (Oper × Nat)) (listed : Array Bool) (a : Act) (w : World), SpecL ops S T D listed → HeadInv .any ops ops.size listed →
    (∀ p ∈ rem, ops[p.2]? = some p.1 ∧ listed.getD p.2 true = false) → rem.Pairwise (fun p q => p.2 < q.2) → (∀ j o, ops[j]? = some o → listed.getD j true = false → (o, j) ∈ rem) → rem.length = fuel → (Needs D rem → C w) →
    Lex P ops C S T D Q rem a w → wpAny P .any ops Q fuel listed a w := by
  have hns := Region.noSelect_spec hsel
  intro fuel
  induction fuel with
  | zero =>
    intro rem listed a w hB inv hrem hpw hall hlen hC h
    have : rem = [] := List.length_eq_zero_iff.1 hlen
    subst this
    refine ⟨List.eq_nil_iff_forall_not_mem.2 fun j hj => ?_, h⟩
    obtain ⟨hun, oj, hoj, _⟩ := mem_ready.1 hj
    cases hall j oj hoj hun
  | succ fuel ih =>
    intro rem listed a w hB inv hrem hpw hall hlen hC h
    refine ⟨fun hr => ?_, fun j hj => ?_⟩
    · exfalso
      match rem, hlen with
      | (o, k) :: rest, _ =>
        obtain ⟨hok, hun⟩ := hrem (o, k) (by simp)
        have hks : k < ops.size := (Array.getElem?_eq_some_iff.1 hok).1
        have hmem : k ∈ Region.ready .any ops listed := by
          refine mem_ready.2 ⟨hun, o, hok, fun e he hb => ?_⟩
          have hlt := (hB k o hok hun).1 e he hb
          have hes : e.on < listed.size := by rw [inv.size]; omega
          cases hl : listed.getD e.on false with
          | true => rfl
          | false =>
            have hin := hall e.on ops[e.on] (Array.getElem?_eq_getElem (by omega)) (getD_bool hl hes)
            rcases List.mem_cons.1 hin with e1 | e1
            · have : e.on = k := (Prod.mk.inj e1).2
              omega
            · have : k < e.on := (List.pairwise_cons.1 hpw).1 _ e1
              omega
        rw [hr] at hmem
        cases hmem
    · obtain ⟨hun, oj, hoj, hdeps⟩ := mem_ready.1 hj
      have hjs : j < ops.size := (Array.getElem?_eq_some_iff.1 hoj).1
      obtain ⟨pre, post, rfl⟩ := List.append_of_mem (hall j oj hoj hun)
      have hpre : ∀ x ∈ pre, x.2 < j := fun x hx => (List.pairwise_append.1 hpw).2.2 x hx (oj, j) (by simp)
      have hpost : ∀ x ∈ post, j < x.2 := fun x hx => (List.pairwise_cons.1 (List.pairwise_append.1 hpw).2.1).1 x hx
      have hl := bubble (fun cs b => hns j oj cs b hoj) pre a w (fun x hx => by
        obtain ⟨hxo, hxu⟩ := hrem x (by simp [hx])
        refine ⟨fun cs b => hns x.2 x.1 cs b hxo, ?_⟩
        rcases (hB j oj hoj hun).2 x.2 x.1 (hpre x hx) hxu hxo with h1 | h1
        · exact h1
        · have := reach_listed inv 12 j x.2 oj hoj hdeps h1
          rw [getD_both hxu] at this
          cases this) hC h
      have next : ∀ a' w', (Needs D (pre ++ post) → C w') → Lex P ops C S T D Q (pre ++ post) a' w' → wpAny P .any ops Q fuel (listed.setIfInBounds j true) a' w' := fun a' w' hC' hl' => by
        refine ih (pre ++ post) _ a' w' hB.set (inv.set hj hjs) (fun p hp => ?_) ?_ (fun i o ho hu => ?_) ?_ hC' hl'
        · have hne : p.2 ≠ j := by
            rcases List.mem_append.1 hp with h1 | h1
            · have := hpre p h1; omega
            · have := hpost p h1; omega
          obtain ⟨h1, h2⟩ := hrem p (by rcases List.mem_append.1 hp with h1 | h1 <;> simp [h1])
          exact ⟨h1, by rw [getD_set_ne true (Ne.symm hne)]; exact h2⟩
        · exact hpw.sublist (List.Sublist.append_left (List.sublist_cons_self _ _) _)
        · obtain ⟨hne, hu'⟩ := set_unlisted hu
          have := hall i o ho hu'
          simp only [List.mem_append, List.mem_cons] at this ⊢
          rcases this with h1 | h1 | h1
          · exact .inl h1
          · exact absurd (Prod.mk.inj h1).2 hne
          · exact .inr h1
        · simp only [List.length_append, List.length_cons] at hlen ⊢; omega
      have hCr : Needs D (pre ++ post) → C w := fun hn => hC (hn.perm fun p hp => by rcases List.mem_append.1 hp with h1 | h1 <;> simp [h1])
      unfold wpOp
      rw [hoj]
      unfold Lex at hl
      split at hl
      · unfold Does at hl
        split at hl
        · rename_i hw
          simp only [hw, if_true]
          refine .inl ?_
          have := Oper.wp_mono (K' := wpAny P .any ops Q fuel (listed.setIfInBounds j true)) (fun a' w' ⟨hc, hx⟩ => next a' w' (hc.out hCr) hx) hl
          unfold Oper.wp at *
          generalize (execOp a.eval oj).run P w = r at *
          cases r with
          | ok n w' =>
            cases n <;> simp only [Oper.upon] at this ⊢ <;> first | exact this | skip
            exact Calls.mono this (fun e w'' he => by cases e <;> first | exact he | exact he.elim | exact (not_letsOut he).elim)
          | halt x w' => cases x <;> simp only [Oper.upon] at this ⊢ <;> exact this.elim
        · rename_i hw
          simp only [hw]
          exact next _ _ (hl.1.out hCr) hl.2
      · obtain ⟨u, hu, hx⟩ := hl
        have hx' := next _ w hCr hx
        rcases hu with ⟨hw, hu⟩ | ⟨hw, rfl⟩
        · simp only [hw, if_true]
          refine .inl ?_
          unfold Oper.wp
          have hCw : (if D.contains j then C else Every) w := by
            split
            · rename_i hd; exact hC ⟨(oj, j), by simp, hd⟩
            · trivial
          rcases hu w hCw with e | ⟨e, rfl⟩ <;> rw [e] <;> exact hx'
        · simp only [hw]; exact hx'


/-- As anyB, but m may come ahead of c or behind it. -/
def floatB (ops : Array Oper) (S T D : List Nat) (c m : Nat) : Bool :=
  Region.noSelect ops && S.contains c && S.contains m && !D.contains m && (S.all fun j => j == c || j == m || reachB ops 12 j m) && ((List.range ops.size).all fun j => S.contains j || match ops[m]?, ops[j]? with
    | some om, some oj => om.apart ops oj && !T.contains j
    | _, _ => false) && (List.range ops.size).all fun j => match ops[j]? with
    | some oj => (oj.after.all fun e => !Region.binds .any e || decide (e.on < j)) && (List.range j).all fun i => match ops[i]? with
      | some oi => (oi.apart ops oj && (i == c && j == m || !(S.contains i && S.contains j)) && !(D.contains i && T.contains j)) || reachB ops 12 j i
      | none => false
    | none => false
def SpecF (ops : Array Oper) (S T D : List Nat) (c m : Nat) (listed : Array Bool) : Prop := ∀ j oj, ops[j]? = some oj → listed.getD j true = false → (∀ e ∈ oj.after, Region.binds .any e = true → e.on < j) ∧
  ∀ i oi, i < j → listed.getD i true = false → ops[i]? = some oi → (oi.apart ops oj = true ∧ (i = c ∧ j = m ∨ ¬ (S.contains i = true ∧ S.contains j = true)) ∧ ¬ (D.contains i = true ∧ T.contains j = true)) ∨ reachB ops 12 j i = true
theorem SpecF.set {c m k : Nat} {listed : Array Bool} (h : SpecF ops S T D c m listed) : SpecF ops S T D c m (listed.setIfInBounds k true) := fun j oj ho hj => by
  obtain ⟨h1, h2⟩ := h j oj ho (set_unlisted hj).2
  exact ⟨h1, fun i oi hi hu => h2 i oi hi (set_unlisted hu).2⟩
theorem SpecF.done {c m k : Nat} {listed : Array Bool} (h : SpecF ops S T D c m listed) (hk : k = c ∨ k = m) : SpecL ops S T D (listed.setIfInBounds k true) := fun j oj ho hj => by
  obtain ⟨hkj, hj'⟩ := set_unlisted hj
  obtain ⟨h1, h2⟩ := h j oj ho hj'
  refine ⟨h1, fun i oi hi hu hoi => ?_⟩
  obtain ⟨hki, hi'⟩ := set_unlisted hu
  rcases h2 i oi hi hi' hoi with ⟨ha, hb | hb, hd⟩ | hr
  · omega
  · exact .inl ⟨ha, hb, hd⟩
  · exact .inr hr

theorem lex_op {oj : Oper} {j : Nat} {rest : List (Oper × Nat)} {a : Act} {w : World} {G K : Act → World → Prop} (hoj : ops[j]? = some oj) (hC : D.contains j = true → C w) (hCr : Needs D rest → C w)
    (hl : if S.contains j then Does P ops oj a w (fun a' w' => ActLeft C T D j rest w w' ∧ G a' w') else ∃ u, Gives P ops (if D.contains j then C else Every) oj u a ∧ G (a.put oj.dst u) w)
    (next : ∀ a' w', (Needs D rest → C w') → G a' w' → K a' w') : wpOp P ops Q j K a w := by
  unfold wpOp
  rw [hoj]
  split at hl
  · unfold Does at hl
    split at hl
    · rename_i hw
      simp only [hw, if_true]
      refine .inl ?_
      have := Oper.wp_mono (K' := K) (fun a' w' ⟨hc, hx⟩ => next a' w' (hc.out hCr) hx) hl
      unfold Oper.wp at *
      generalize (execOp a.eval oj).run P w = r at *
      cases r with
      | ok n w' =>
        cases n <;> simp only [Oper.upon] at this ⊢ <;> first | exact this | skip
        exact Calls.mono this (fun e w'' he => by cases e <;> first | exact he | exact he.elim | exact (not_letsOut he).elim)
      | halt x w' => cases x <;> simp only [Oper.upon] at this ⊢ <;> exact this.elim
    · rename_i hw
      simp only [hw]
      exact next _ _ (hl.1.out hCr) hl.2
  · obtain ⟨u, hu, hx⟩ := hl
    have hx' := next _ w hCr hx
    rcases hu with ⟨hw, hu⟩ | ⟨hw, rfl⟩
    · simp only [hw, if_true]
      refine .inl ?_
      unfold Oper.wp
      have hCw : (if D.contains j then C else Every) w := by
        split
        · rename_i hd; exact hC hd
        · trivial
      rcases hu w hCw with e | ⟨e, rfl⟩ <;> rw [e] <;> exact hx'
    · simp only [hw]; exact hx'

theorem any_of_float {c m : Nat} {om : Oper} (hom : ops[m]? = some om) (hsel : Region.noSelect ops = true) (hmS : S.contains m = true) (hmD : D.contains m = false) (hS : ∀ j, S.contains j = true → j = c ∨ j = m ∨ reachB ops 12 j m = true)
    (hap : ∀ j oj, ops[j]? = some oj → S.contains j = false → om.apart ops oj = true ∧ T.contains j = false) : ∀ (fuel : Nat) (rem : List (Oper × Nat)) (listed : Array Bool) (a : Act) (w : World), SpecF ops S T D c m listed → listed.getD m true = false → HeadInv .any ops ops.size listed →
    (∀ p ∈ rem, ops[p.2]? = some p.1 ∧ listed.getD p.2 true = false) → rem.Pairwise (fun p q => p.2 < q.2) → (∀ j o, ops[j]? = some o → listed.getD j true = false → (o, j) ∈ rem) → rem.length = fuel → (Needs D rem → C w) →
    Lex P ops C S T D Q rem a w → Lex P ops C S T D Q ((om, m) :: rem.filter (fun p => p.2 != m)) a w → wpAny P .any ops Q fuel listed a w := by
  have hns := Region.noSelect_spec hsel
  intro fuel
  induction fuel with
  | zero =>
    intro rem listed a w hB hmu inv hrem hpw hall hlen hC h hF
    have : rem = [] := List.length_eq_zero_iff.1 hlen
    subst this
    cases hall m om hom hmu
  | succ fuel ih =>
    intro rem listed a w hB hmu inv hrem hpw hall hlen hC h hF
    refine ⟨fun hr => ?_, fun j hj => ?_⟩
    · exfalso
      match rem, hlen with
      | (o, k) :: rest, _ =>
        obtain ⟨hok, hun⟩ := hrem (o, k) (by simp)
        have hks : k < ops.size := (Array.getElem?_eq_some_iff.1 hok).1
        have hmem : k ∈ Region.ready .any ops listed := by
          refine mem_ready.2 ⟨hun, o, hok, fun e he hb => ?_⟩
          have hlt := (hB k o hok hun).1 e he hb
          have hes : e.on < listed.size := by rw [inv.size]; omega
          cases hl : listed.getD e.on false with
          | true => rfl
          | false =>
            have hin := hall e.on ops[e.on] (Array.getElem?_eq_getElem (by omega)) (getD_bool hl hes)
            rcases List.mem_cons.1 hin with e1 | e1
            · have : e.on = k := (Prod.mk.inj e1).2
              omega
            · have : k < e.on := (List.pairwise_cons.1 hpw).1 _ e1
              omega
        rw [hr] at hmem
        cases hmem
    · obtain ⟨hun, oj, hoj, hdeps⟩ := mem_ready.1 hj
      have hjs : j < ops.size := (Array.getElem?_eq_some_iff.1 hoj).1
      obtain ⟨pre, post, rfl⟩ := List.append_of_mem (hall j oj hoj hun)
      have hpre : ∀ x ∈ pre, x.2 < j := fun x hx => (List.pairwise_append.1 hpw).2.2 x hx (oj, j) (by simp)
      have hpost : ∀ x ∈ post, j < x.2 := fun x hx => (List.pairwise_cons.1 (List.pairwise_append.1 hpw).2.1).1 x hx
      have hCr : Needs D (pre ++ post) → C w := fun hn => hC (hn.perm fun p hp => by rcases List.mem_append.1 hp with h1 | h1 <;> simp [h1])
      have hCj : D.contains j = true → C w := fun hd => hC ⟨(oj, j), by simp, hd⟩
      have hrem' : ∀ p ∈ pre ++ post, ops[p.2]? = some p.1 ∧ (listed.setIfInBounds j true).getD p.2 true = false := fun p hp => by
        have hne : p.2 ≠ j := by
          rcases List.mem_append.1 hp with h1 | h1
          · have := hpre p h1; omega
          · have := hpost p h1; omega
        obtain ⟨h1, h2⟩ := hrem p (by rcases List.mem_append.1 hp with h1 | h1 <;> simp [h1])
        exact ⟨h1, by rw [getD_set_ne true (Ne.symm hne)]; exact h2⟩
      have hpw' : (pre ++ post).Pairwise (fun p q => p.2 < q.2) := hpw.sublist (List.Sublist.append_left (List.sublist_cons_self _ _) _)
      have hall' : ∀ i o, ops[i]? = some o → (listed.setIfInBounds j true).getD i true = false → (o, i) ∈ pre ++ post := fun i o ho hu => by
        obtain ⟨hne, hu'⟩ := set_unlisted hu
        have := hall i o ho hu'
        simp only [List.mem_append, List.mem_cons] at this ⊢
        rcases this with h1 | h1 | h1
        · exact .inl h1
        · exact absurd (Prod.mk.inj h1).2 hne
        · exact .inr h1
      have hlen' : (pre ++ post).length = fuel := by simp only [List.length_append, List.length_cons] at hlen ⊢; omega
      have nextL : SpecL ops S T D (listed.setIfInBounds j true) → ∀ a' w', (Needs D (pre ++ post) → C w') → Lex P ops C S T D Q (pre ++ post) a' w' → wpAny P .any ops Q fuel (listed.setIfInBounds j true) a' w' := fun hsp a' w' hC' hl' =>
        any_of_lexL hsel fuel (pre ++ post) _ a' w' hsp (inv.set hj hjs) hrem' hpw' hall' hlen' hC' hl'
      by_cases hjm : j = m
      · subst hjm
        obtain rfl : oj = om := Option.some.inj (hoj.symm.trans hom)
        have e : (pre ++ (oj, j) :: post).filter (fun p => p.2 != j) = pre ++ post := by
          rw [List.filter_append, List.filter_cons_of_neg (by simp)]
          rw [List.filter_eq_self.2 fun p hp => by have := hpre p hp; simp; omega, List.filter_eq_self.2 fun p hp => by have := hpost p hp; simp; omega]
        rw [e] at hF
        exact lex_op hoj hCj hCr (by unfold Lex at hF; exact hF) (nextL (hB.done (.inr rfl)))
      · have hl := bubble (fun cs b => hns j oj cs b hoj) pre a w (fun x hx => by
          obtain ⟨hxo, hxu⟩ := hrem x (by simp [hx])
          refine ⟨fun cs b => hns x.2 x.1 cs b hxo, ?_⟩
          rcases (hB j oj hoj hun).2 x.2 x.1 (hpre x hx) hxu hxo with ⟨h1, h2 | h2, h3⟩ | h1
          · exact absurd h2.2 hjm
          · exact ⟨h1, h2, h3⟩
          · have := reach_listed inv 12 j x.2 oj hoj hdeps h1
            rw [getD_both hxu] at this
            cases this) hC h
        cases hSj : S.contains j with
        | true =>
          have hjc : j = c := by
            rcases hS j hSj with h1 | h1 | h1
            · exact h1
            · exact absurd h1 hjm
            · have := reach_listed inv 12 j m oj hoj hdeps h1
              rw [getD_both hmu] at this
              cases this
          exact lex_op hoj hCj hCr (by unfold Lex at hl; exact hl) (nextL (hB.done (.inl hjc)))
        | false =>
          have e : (pre ++ (oj, j) :: post).filter (fun p => p.2 != m) = pre.filter (fun p => p.2 != m) ++ (oj, j) :: post.filter (fun p => p.2 != m) := by
            rw [List.filter_append, List.filter_cons_of_pos (by simpa using hjm)]
          have e' : (pre ++ post).filter (fun p => p.2 != m) = pre.filter (fun p => p.2 != m) ++ post.filter (fun p => p.2 != m) := List.filter_append ..
          rw [e] at hF
          have hF2 := bubble (C := C) (fun cs b => hns j oj cs b hoj) ((om, m) :: pre.filter (fun p => p.2 != m)) (post := post.filter (fun p => p.2 != m)) (k := j) a w (fun x hx => by
            rcases List.mem_cons.1 hx with rfl | hx
            · exact ⟨fun cs b => hns m om cs b hom, (hap j oj hoj hSj).1, (fun h1 => by rw [hSj] at h1; cases h1.2), (fun h1 => by rw [hmD] at h1; cases h1.1)⟩
            · have hx := (List.mem_filter.1 hx).1
              obtain ⟨hxo, hxu⟩ := hrem x (by simp [hx])
              refine ⟨fun cs b => hns x.2 x.1 cs b hxo, ?_⟩
              rcases (hB j oj hoj hun).2 x.2 x.1 (hpre x hx) hxu hxo with ⟨h1, h2 | h2, h3⟩ | h1
              · exact absurd h2.2 hjm
              · exact ⟨h1, h2, h3⟩
              · have := reach_listed inv 12 j x.2 oj hoj hdeps h1
                rw [getD_both hxu] at this
                cases this) (fun hn => by
              obtain ⟨p, hp, hd⟩ := hn
              rcases List.mem_cons.1 hp with rfl | hp
              · rw [hmD] at hd; cases hd
              · refine hC ⟨p, ?_, hd⟩
                have hp' : p ∈ (pre ++ (oj, j) :: post).filter (fun p => p.2 != m) := by rw [e]; exact hp
                exact (List.mem_filter.1 hp').1) hF
          refine lex_op (S := S) (T := T) (rest := pre ++ post) (G := fun a' w' => Lex P ops C S T D Q (pre ++ post) a' w' ∧ Lex P ops C S T D Q ((om, m) :: (pre ++ post).filter (fun p => p.2 != m)) a' w') hoj hCj hCr ?_ (fun a' w' hC' hl' => ?_)
          · unfold Lex at hl
            unfold Lex at hF2
            simp only [hSj, Bool.false_eq_true, if_false] at hl hF2 ⊢
            obtain ⟨u, hu, hx⟩ := hl
            obtain ⟨u2, hu2, hx2⟩ := hF2
            have hCw : (if D.contains j then C else Every) w := by
              split
              · rename_i hd; exact hCj hd
              · trivial
            obtain rfl := Gives.unique hCw hu hu2
            rw [e']
            exact ⟨u, hu, hx, hx2⟩
          · exact ih (pre ++ post) _ a' w' hB.set (by rw [getD_set_ne true hjm]; exact hmu) (inv.set hj hjs) hrem' hpw' hall' hlen' hC' hl'.1 hl'.2

theorem floatB_spec {c m : Nat} (h : floatB ops S T D c m = true) (hm : m < ops.size) : Region.noSelect ops = true ∧ S.contains m = true ∧ D.contains m = false ∧ (∀ j, S.contains j = true → j = c ∨ j = m ∨ reachB ops 12 j m = true) ∧
    (∀ j oj, ops[j]? = some oj → S.contains j = false → ops[m].apart ops oj = true ∧ T.contains j = false) ∧ ∀ listed, SpecF ops S T D c m listed := by
  simp only [floatB, Bool.and_eq_true] at h
  obtain ⟨⟨⟨⟨⟨⟨h1, h2⟩, h3⟩, h4⟩, h5⟩, h6⟩, h7⟩ := h
  refine ⟨h1, h3, by simpa using h4, fun j hj => ?_, fun j oj hoj hj => ?_, fun listed j oj hj _ => ?_⟩
  · have := List.all_eq_true.1 h5 j (by simpa using hj)
    simp only [Bool.or_eq_true, beq_iff_eq] at this
    rcases this with (h | h) | h
    · exact .inl h
    · exact .inr (.inl h)
    · exact .inr (.inr h)
  · have hlt : j < ops.size := (Array.getElem?_eq_some_iff.1 hoj).1
    have := List.all_eq_true.1 h6 j (List.mem_range.2 hlt)
    rw [hj, Bool.false_or, hoj, Array.getElem?_eq_getElem hm] at this
    simpa using this
  · have hlt : j < ops.size := (Array.getElem?_eq_some_iff.1 hj).1
    have h1 := List.all_eq_true.1 h7 j (List.mem_range.2 hlt)
    simp only [hj, Bool.and_eq_true] at h1
    refine ⟨fun e he hb => ?_, fun i oi hi _ hoi => ?_⟩
    · have := Array.all_eq_true'.1 h1.1 e he
      simpa [hb] using this
    · have := List.all_eq_true.1 h1.2 i (List.mem_range.2 hi)
      simp only [hoi, Bool.or_eq_true, Bool.and_eq_true] at this
      rcases this with ⟨⟨ha, hn⟩, hn2⟩ | hr
      · refine .inl ⟨ha, ?_, (fun ⟨e1, e2⟩ => by rw [e1, e2] at hn2; cases hn2)⟩
        rcases hn with ⟨ha, hb⟩ | hn
        · exact .inl ⟨by simpa using ha, by simpa using hb⟩
        · exact .inr (fun ⟨e1, e2⟩ => by rw [e1, e2] at hn; cases hn)
      · exact .inr hr

/-- The region, shown in two orders: as it is written, and with m first. -/
theorem wp_region_float {id : Nat} {a : Act} {w : World} {l : List Oper} (c m : Nat) (C : World → Prop) (S T D : List Nat) (R : Act → World → Prop) (hm : P.follows .mixedOrders = true) (hB : floatB l.toArray S T D c m = true) (hml : m < l.length) (hC : Needs D l.zipIdx → C w.drew)
    (h : Lex P l.toArray C S T D (fun e a w => e = .normal ∧ R a w) l.zipIdx a w.drew) (h2 : Lex P l.toArray C S T D (fun e a w => e = .normal ∧ R a w) ((l[m], m) :: l.zipIdx.filter (fun p => p.2 != m)) a w.drew) (hR : ∀ a' w', R a' w' → Q .normal a' w') : (Code.region id l.toArray true).wp P Q a w := by
  refine Code.wp_mono (Q := fun e a w => e = .normal ∧ R a w) (fun e a w h => by obtain ⟨rfl, h⟩ := h; exact hR a w h) ?_
  refine wp_region_any hm ?_
  obtain ⟨s1, s2, s3, s4, s5, s6⟩ := floatB_spec hB (by simpa using hml)
  refine any_of_float (c := c) (m := m) (om := l[m]) (by simp [hml]) s1 s2 s3 s4 (by simpa using s5) _ l.zipIdx _ a _ (s6 _) (getD_in (by simpa using hml) (getD_replicate_false _ _)) ⟨by simp, fun j oj _ hl => (by rw [getD_replicate_false] at hl; cases hl), fun t ht ht' => absurd ht' (by omega)⟩ (fun p hp => ?_) ?_ (fun j o ho _ => ?_) (by simp) hC h h2
  · obtain ⟨h1, h2⟩ := List.mem_zipIdx' hp
    refine ⟨by simp [h2], getD_in (by simpa using h1) (getD_replicate_false _ _)⟩
  · have : l.zipIdx.Pairwise (fun p q => p.2 < q.2) := by
      rw [List.pairwise_iff_getElem]
      intro i j hi hj hij
      simp only [List.getElem_zipIdx]
      omega
    exact this
  · rw [List.mem_zipIdx_iff_getElem?]; simpa using ho
/-- The same, where what is left is but a pointer's block. -/
theorem wp_region_float_at {id : Nat} {a : Act} {w : World} {l : List Oper} (c m : Nat) (C : World → Prop) (S T D : List Nat) (R : Nat → World → Prop) (hm : P.follows .mixedOrders = true) (hB : floatB l.toArray S T D c m = true) (hml : m < l.length) (hC : Needs D l.zipIdx → C w.drew)
    (h : ∃ A : Nat → Act, Lex P l.toArray C S T D (fun e a w => e = .normal ∧ ∃ q, a = A q ∧ R q w) l.zipIdx a w.drew ∧ Lex P l.toArray C S T D (fun e a w => e = .normal ∧ ∃ q, a = A q ∧ R q w) ((l[m], m) :: l.zipIdx.filter (fun p => p.2 != m)) a w.drew ∧ ∀ q w', R q w' → Q .normal (A q) w') : (Code.region id l.toArray true).wp P Q a w := by
  obtain ⟨A, h1, h2, h3⟩ := h
  exact wp_region_float c m C S T D (fun a w => ∃ q, a = A q ∧ R q w) hm hB hml hC h1 h2 fun a' w' ⟨q, e, hr⟩ => by subst e; exact h3 q w' hr
end
end Go.Proofs.YtlgaikknodoilaaDoor.Sh
