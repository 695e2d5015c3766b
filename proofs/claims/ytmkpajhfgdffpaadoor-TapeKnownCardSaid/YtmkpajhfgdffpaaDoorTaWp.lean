/- A walk with a select or a send in it, in one goroutine: over any program. 'NW' is 'Code.wp' in a call's own frame; the rules for a region that communicates. -/
import Derived.Test.YtmkpajhfgdffpaaDoorShAny
import Derived.Conc.LoneSelectN
import Derived.Conc.LoneSelect
namespace Go.Proofs.YtmkpajhfgdffpaaDoor.Sh
set_option linter.unusedVariables false
set_option linter.unusedSimpArgs false
open Go Go.Conc Go.RowKit

def NW (P : Program) (c : Code) (Q : Exit → Act → World → Prop) (a : Act) (w : World) : Prop :=
  ∀ (b : Frame) (k : List Item) (cs : List Frame), b.kind = .normal → ∃ e a' w', Q e a' w' ∧ Arrives P (lone (b.at a (.code c :: k)) cs w) b k cs e a' w'
/-- From operation l on, in a region. -/
def RW (P : Program) (ops : Array Oper) (Q : Exit → Act → World → Prop) (l : List Nat) (a : Act) (w : World) : Prop :=
  ∀ (b : Frame) (k : List Item) (cs : List Frame), b.kind = .normal → ∃ e a' w', Q e a' w' ∧ Arrives P (lone (b.at a (.inRegion ops l :: k)) cs w) b k cs e a' w'

section
variable {P : Program} {Q : Exit → Act → World → Prop} {a : Act} {w : World} {ops : Array Oper}
theorem NW.of_wp {c : Code} (h : c.wp P Q a w) : NW P c Q a w := fun b k cs _ => h b k cs
theorem NW.mono {c : Code} {Q' : Exit → Act → World → Prop} (h : NW P c Q a w) (hq : ∀ e a w, Q e a w → Q' e a w) : NW P c Q' a w :=
  fun b k cs hb => let ⟨e, a', w', q, r⟩ := h b k cs hb; ⟨e, a', w', hq _ _ _ q, r⟩
theorem NW.seq {x y : Code} (h : NW P x (Exit.then (NW P y Q) Q) a w) : NW P (.seq x y) Q a w := by
  intro b k cs hb
  obtain ⟨e, a₁, w₁, hq, harr⟩ := h b (.code y :: k) cs hb
  cases e with
  | normal =>
    obtain ⟨e₂, a₂, w₂, hq₂, harr₂⟩ := hq b k cs hb
    exact ⟨e₂, a₂, w₂, hq₂, .of_steps (.head step_seq harr) harr₂⟩
  | exit id => exact ⟨_, a₁, w₁, hq, .of_steps (.one step_seq) (.pass (x := .code y) rfl (fun _ _ => .inl (by simp)) harr)⟩
  | goto l => exact ⟨_, a₁, w₁, hq, .of_steps (.one step_seq) (.pass (x := .code y) rfl (fun _ _ => .inl (by simp)) harr)⟩
  | ret => exact ⟨_, a₁, w₁, hq, .of_steps (.one step_seq) (.pass (x := .code y) rfl (fun _ _ => .inl (by simp)) harr)⟩
  | panic ch => exact ⟨_, a₁, w₁, hq, .of_steps (.one step_seq) (.pass (x := .code y) rfl (fun _ _ => .inl (by simp)) harr)⟩
  | outgrown => exact ⟨_, a₁, w₁, hq, .of_steps (.one step_seq) (.pass (x := .code y) rfl (fun _ _ => .inl (by simp)) harr)⟩
theorem NW.cond {c : Operand} {x y : Code} {t : Bool} (hc : a.eval c = .bool t) (h : NW P (if t then x else y) Q a w) : NW P (.cond c x y) Q a w :=
  fun b k cs hb => let ⟨e, a', w', q, r⟩ := h b k cs hb; ⟨e, a', w', q, .of_steps (.one (step_cond hc)) r⟩
theorem NW.block {id : Nat} {c : Code} (h : NW P c (Exit.inBlock id Q) a w) : NW P (.block id c) Q a w := by
  intro b k cs hb
  obtain ⟨e, a₁, w₁, hq, harr⟩ := h b (.inBlock id :: k) cs hb
  cases e with
  | normal => exact ⟨.normal, a₁, w₁, hq, .head step_block (Steps.trans harr (.one step_inBlock))⟩
  | exit id' =>
    by_cases hid : id' = id
    · simp only [Exit.inBlock, hid, if_true] at hq
      exact ⟨.normal, a₁, w₁, hq, .head step_block (harr k (by simp [exitTo, hid]))⟩
    · simp only [Exit.inBlock, hid, if_false] at hq
      refine ⟨.exit id', a₁, w₁, hq, fun k' hk => .head step_block (harr k' ?_)⟩
      have : (id == id') = false := by simp; exact fun h => hid h.symm
      simp [exitTo, this, hk]
  | goto l => exact ⟨_, a₁, w₁, hq, fun k' hk => .head step_block (harr k' (by simp [gotoIn, hk]))⟩
  | ret => exact ⟨_, a₁, w₁, hq, .of_steps (.one step_block) harr⟩
  | panic ch => exact ⟨_, a₁, w₁, hq, .of_steps (.one step_block) harr⟩
  | outgrown => exact ⟨_, a₁, w₁, hq, .of_steps (b := b) (k := k) (cs := cs) (e := .outgrown) (.one step_block) harr⟩
theorem NW.loop {c : Code} (I : Nat → Act → World → Prop) (n : Nat) (h₀ : I n a w)
    (round : ∀ n a w, I n a w → NW P c (Exit.then (fun a' w' => ∃ m, m < n ∧ I m a' w') Q) a w) : NW P (.loop c) Q a w := by
  intro b k cs hb
  have key : ∀ n a w, I n a w → ∃ e a' w', Q e a' w' ∧ Arrives P (lone (b.at a (.code c :: .inLoop c :: k)) cs w) b k cs e a' w' := by
    intro n
    induction n using Nat.strongRecOn with
    | _ n ih =>
      intro a w hI
      obtain ⟨e, a₁, w₁, hq, harr⟩ := round n a w hI b (.inLoop c :: k) cs hb
      cases e with
      | normal =>
        obtain ⟨m, hlt, hI₁⟩ := hq
        obtain ⟨e₂, a₂, w₂, hq₂, harr₂⟩ := ih m hlt a₁ w₁ hI₁
        exact ⟨e₂, a₂, w₂, hq₂, .of_steps (Steps.trans harr (.one step_inLoop)) harr₂⟩
      | exit id => exact ⟨_, a₁, w₁, hq, .pass (x := .inLoop c) rfl (fun _ _ => .inl (by simp)) harr⟩
      | goto l => exact ⟨_, a₁, w₁, hq, .pass (x := .inLoop c) rfl (fun _ _ => .inl (by simp)) harr⟩
      | ret => exact ⟨_, a₁, w₁, hq, .pass (x := .inLoop c) rfl (fun _ _ => .inl (by simp)) harr⟩
      | panic ch => exact ⟨_, a₁, w₁, hq, .pass (x := .inLoop c) rfl (fun _ _ => .inl (by simp)) harr⟩
      | outgrown => exact ⟨_, a₁, w₁, hq, .pass (x := .inLoop c) rfl (fun _ _ => .inl (by simp)) harr⟩
  obtain ⟨e, a', w', hq, harr⟩ := key n a w h₀
  exact ⟨e, a', w', hq, .of_steps (.one step_loop) harr⟩
theorem calls_of_nw {f : FuncId} {fn : Func} {c : Code} {args : Array Value} {R : Ending → World → Prop} (hf : P.funcs[f]? = some fn) (hb : fn.body = some c)
    (h : NW P c (bodyPost P fn R) { tmps := args ++ Array.replicate (fn.ntmps - args.size) undef, defers := [] } w) : Calls P f args w R := by
  intro cs
  let b : Frame := { (default : Frame) with fn := f, kind := .normal }
  have henter : Frame.enter P f args .normal = b.at { tmps := args ++ Array.replicate (fn.ntmps - args.size) undef, defers := [] } [.code c] := by
    simp [Frame.enter, Frame.at, hf, hb, b]
  obtain ⟨e, a', w', hq, harr⟩ := h b [] cs rfl
  rw [← henter] at harr
  cases e with
  | normal =>
    obtain ⟨hd, v, hr, hR⟩ := hq
    exact ⟨.returned v, w', _, hR, Steps.trans harr (.one step_end), rfl, rfl, hd, rfl, fn, hf, hr⟩
  | ret =>
    obtain ⟨hd, v, hr, hR⟩ := hq
    obtain ⟨todo, hs⟩ := harr
    exact ⟨.returned v, w', _, hR, hs, rfl, rfl, hd, rfl, fn, hf, hr⟩
  | panic chain =>
    obtain ⟨hd, hR⟩ := hq
    obtain ⟨todo, hs⟩ := harr
    exact ⟨.panicked chain, w', _, hR, hs, rfl, rfl, hd, fn, hf⟩
  | exit id => exact hq.elim
  | goto l => exact hq.elim
  | outgrown => exact ⟨.outgrown, w', b, hq, harr.resolve_left (by simp [b]), rfl, trivial⟩

theorem RW.of_ops {l : List Nat} (h : wpOps P ops Q l a w) : RW P ops Q l a w := fun b k cs _ => wp_ops l a w h b k cs
theorem RW.nil (h : Q .normal a w) : RW P ops Q [] a w := fun _ _ _ _ => ⟨.normal, a, w, h, .one step_region_end⟩
theorem NW.region {id : Nat} (h : RW P ops Q (List.range ops.size) a w) : NW P (.region id ops false) Q a w :=
  fun b k cs hb => let ⟨e, a', w', q, r⟩ := h b k cs hb; ⟨e, a', w', q, .of_steps (.one step_region) r⟩
theorem RW.comm {i : Nat} {rest : List Nat} {o : Oper} {v : Value} {w' : World} (ho : ops[i]? = some o)
    (hs : ∀ (b : Frame) (k : List Item) (cs : List Frame), b.kind = .normal → step P (lone (b.at a (.inRegion ops (i :: rest) :: k)) cs w) = .next (lone ((b.at a (.inRegion ops (i :: rest) :: k)).finish v) cs w'))
    (h : RW P ops Q rest (a.put o.dst v) w') : RW P ops Q (i :: rest) a w := by
  intro b k cs hb
  obtain ⟨e, a', w'', hq, harr⟩ := h b k cs hb
  refine ⟨e, a', w'', hq, .of_steps (.one ?_) harr⟩
  rw [hs b k cs hb, Frame.finish_at, ho]; rfl

theorem ne_early {b : Frame} (h : b.kind = .normal) : b.kind ≠ .early := by rw [h]; exact fun e => by cases e
/-- A select of one receive and a default: something waits. -/
theorem RW.sel_recv {i : Nat} {rest : List Nat} {o : Oper} (ho : ops[i]? = some o) (hw : Region.wanted o (yielded ops a.tmps) = true) {c cap s r : Nat} {z : Value} {buf : Array Value} {closed tm : Bool}
    (hx : (execOp a.eval o).run P w = .ok (.comm #[rcase c z] false .select) w) (hc : w.heap[c]? = some (.chan cap buf closed s r tm)) (hsome : 0 < buf.size)
    (h : RW P ops Q rest (a.put o.dst (.tuple #[goInt 0, .bool true, buf.getD 0 undef])) (w.setChan c cap (buf.extract 1 buf.size) closed s (r + 1) tm)) : RW P ops Q (i :: rest) a w :=
  RW.comm ho (fun _ _ _ hb => step_lone_select_recv_buf (stepG_comm ho hw (ne_early hb) hx) hc hsome) h
/-- Nothing waits. -/
theorem RW.sel_default {i : Nat} {rest : List Nat} {o : Oper} (ho : ops[i]? = some o) (hw : Region.wanted o (yielded ops a.tmps) = true) {c cap s r : Nat} {z : Value} {tm : Bool}
    (hx : (execOp a.eval o).run P w = .ok (.comm #[rcase c z] false .select) w) (hc : w.heap[c]? = some (.chan cap #[] false s r tm))
    (h : RW P ops Q rest (a.put o.dst (.tuple #[goInt (-1), .bool false, z])) w) : RW P ops Q (i :: rest) a w :=
  RW.comm ho (fun _ _ _ hb => step_lone_select_default (stepG_comm ho hw (ne_early hb) hx) hc) h
theorem RW.send {i : Nat} {rest : List Nat} {o : Oper} (ho : ops[i]? = some o) (hw : Region.wanted o (yielded ops a.tmps) = true) {c cap s r : Nat} {v z : Value} {buf : Array Value} {tm : Bool}
    (hx : (execOp a.eval o).run P w = .ok (.comm #[scase c v z] true .send) w) (hc : w.heap[c]? = some (.chan cap buf false s r tm)) (hroom : buf.size < cap)
    (h : RW P ops Q rest (a.put o.dst undef) (w.setChan c cap (buf.push v) false (s + 1) r tm)) : RW P ops Q (i :: rest) a w :=
  RW.comm ho (fun _ _ _ hb => step_lone_send_room (stepG_comm ho hw (ne_early hb) hx) hc hroom) h
/-- What follows the communication. -/
theorem RW.rest {l : List Oper} {i : Nat} (hl : ∀ j, l[j]? = ops[i + j]?) (h : wpList P ops Q l a w) : RW P ops Q (List.range' i l.length) a w :=
  RW.of_ops (by rw [wpOps_eq_wpList l i hl]; exact h)

/-! A region that draws its order, whose last operation communicates, behind all others. -/
def nop (o : Oper) : Oper := { o with op := .assign (.const (.bool true)), dst := none, guard := none }
def nopLast : List Oper → List Oper
  | [] => []
  | [o] => [nop o]
  | o :: o' :: r => o :: nopLast (o' :: r)
theorem length_nopLast : ∀ l : List Oper, (nopLast l).length = l.length
  | [] => rfl
  | [_] => rfl
  | o :: o' :: r => by simp only [nopLast, List.length_cons]; rw [length_nopLast (o' :: r)]; rfl
theorem nopLast_get : ∀ (l : List Oper) (i : Nat), i + 1 ≠ l.length → (nopLast l)[i]? = l[i]?
  | [], _, _ => rfl
  | [o], 0, h => absurd rfl h
  | [o], i + 1, _ => rfl
  | o :: o' :: r, 0, _ => rfl
  | o :: o' :: r, i + 1, h => by simp only [nopLast, List.getElem?_cons_succ]; exact nopLast_get (o' :: r) i (by simpa using h)
theorem nopLast_last : ∀ (l : List Oper) (i : Nat), i + 1 = l.length → (nopLast l)[i]? = l[i]?.map nop
  | [], _, h => by simp at h
  | [o], 0, _ => rfl
  | [o], i + 1, h => by simp at h
  | o :: o' :: r, 0, h => by simp at h
  | o :: o' :: r, i + 1, h => by simp only [nopLast, List.getElem?_cons_succ]; exact nopLast_last (o' :: r) i (by simpa using h)
theorem ready_nop (md : Region.Mode) (l : List Oper) (listed : Array Bool) : Region.ready md (nopLast l).toArray listed = Region.ready md l.toArray listed := by
  unfold Region.ready
  simp only [List.size_toArray, length_nopLast]
  apply List.filter_congr
  intro i _
  congr 1
  simp only [List.getElem?_toArray]
  by_cases h : i + 1 = l.length
  · rw [nopLast_last l i h]; cases l[i]? <;> rfl
  · rw [nopLast_get l i h]
/-- Operation n comes last, whatever the order: it waits for all others. -/
def lastB (ops : Array Oper) (n : Nat) : Bool := (List.range ops.size).all fun i => i == n || reachB ops 12 n i
theorem go_none (ops : Array Oper) (listed : Array Bool) (h : (Region.ready .any ops listed).isEmpty = true) : ∀ fuel t, Region.linearise.go .any ops fuel t listed [] = [] := by
  intro fuel t
  cases fuel with
  | zero => rfl
  | succ fuel =>
    simp only [Region.linearise.go]
    change (match (Region.ready .any ops listed)[t % (Region.ready .any ops listed).length]? with
      | some i => Region.linearise.go .any ops fuel (t / (Region.ready .any ops listed).length) (listed.setIfInBounds i true) [i]
      | none => [].reverse) = []
    have : Region.ready .any ops listed = [] := by simpa using h
    rw [this]; rfl
theorem go_ends (ops : Array Oper) (n : Nat) (hlast : lastB ops n = true) (hn : n < ops.size) (hback : ∀ j oj, ops[j]? = some oj → ∀ e ∈ oj.after, Region.binds .any e = true → e.on < j) :
    ∀ (fuel : Nat) (rem : List Nat) (t : Nat) (listed : Array Bool), HeadInv .any ops ops.size listed → (∀ i ∈ rem, i < ops.size ∧ listed.getD i true = false) → rem.Pairwise (· < ·) → (∀ i, i < ops.size → listed.getD i true = false → i ∈ rem) →
    rem.length = fuel → n ∈ rem → ∃ L, Region.linearise.go .any ops fuel t listed [] = L ++ [n] ∧ ∀ i ∈ L, i ≠ n := by
  intro fuel
  induction fuel with
  | zero =>
    intro rem t listed inv hrem hpw hall hlen hnr
    have : rem = [] := List.length_eq_zero_iff.1 hlen
    subst this; cases hnr
  | succ fuel ih =>
    intro rem t listed inv hrem hpw hall hlen hnr
    have hne : Region.ready .any ops listed ≠ [] := by
      match rem, hlen with
      | k :: rest, _ =>
        obtain ⟨hk, hun⟩ := hrem k (by simp)
        have hmem : k ∈ Region.ready .any ops listed := by
          refine mem_ready.2 ⟨hun, ops[k], Array.getElem?_eq_getElem hk, fun e he hb => ?_⟩
          have hlt := hback k _ (Array.getElem?_eq_getElem hk) e he hb
          have hes : e.on < listed.size := by rw [inv.size]; omega
          cases hl : listed.getD e.on false with
          | true => rfl
          | false =>
            have hin := hall e.on (by omega) (getD_bool hl hes)
            rcases List.mem_cons.1 hin with e1 | e1
            · omega
            · have : k < e.on := (List.pairwise_cons.1 hpw).1 _ e1
              omega
        intro h; rw [h] at hmem; cases hmem
    simp only [Region.linearise.go]
    change ∃ L, (match (Region.ready .any ops listed)[t % (Region.ready .any ops listed).length]? with
      | some i => Region.linearise.go .any ops fuel (t / (Region.ready .any ops listed).length) (listed.setIfInBounds i true) [i]
      | none => [].reverse) = L ++ [n] ∧ ∀ i ∈ L, i ≠ n
    cases hi : (Region.ready .any ops listed)[t % (Region.ready .any ops listed).length]? with
    | none =>
      exfalso
      have hpos : 0 < (Region.ready .any ops listed).length := List.length_pos_iff.2 hne
      have := Nat.mod_lt t hpos
      rw [List.getElem?_eq_none_iff] at hi
      omega
    | some i =>
      have him := List.mem_of_getElem? hi
      simp only []
      rw [linearise_go_acc, List.reverse_singleton, List.singleton_append]
      obtain ⟨hun, oi, hoi, hdeps⟩ := mem_ready.1 him
      have his : i < ops.size := (Array.getElem?_eq_some_iff.1 hoi).1
      by_cases e : i = n
      · subst e
        have hempty : (Region.ready .any ops (listed.setIfInBounds i true)).isEmpty = true := by
          rw [List.isEmpty_iff]
          refine List.eq_nil_iff_forall_not_mem.2 fun k hk => ?_
          obtain ⟨hku, ok, hok, _⟩ := mem_ready.1 hk
          obtain ⟨hki, hku⟩ := set_unlisted hku
          have hks : k < ops.size := (Array.getElem?_eq_some_iff.1 hok).1
          have hr := List.all_eq_true.1 hlast k (List.mem_range.2 hks)
          rw [Bool.or_eq_true] at hr
          rcases hr with hr | hr
          · exact hki (by simpa using hr)
          · have := reach_listed inv 12 i k oi hoi hdeps hr
            rw [getD_both hku] at this; cases this
        exact ⟨[], by rw [go_none ops _ hempty]; rfl, fun _ h => by cases h⟩
      · obtain ⟨L, hL, hLn⟩ := ih (rem.erase i) (t / (Region.ready .any ops listed).length) _ (inv.set him his) (fun k hk => by
            have hkr := List.mem_of_mem_erase hk
            have hnd : rem.Nodup := hpw.imp (fun h => Nat.ne_of_lt h)
            have hki : k ≠ i := fun h => by rw [h] at hk; exact (List.Nodup.not_mem_erase hnd) hk
            refine ⟨(hrem k hkr).1, ?_⟩
            rw [getD_set_ne true (Ne.symm hki)]; exact (hrem k hkr).2)
          (hpw.sublist List.erase_sublist) (fun k hk hu => by
            obtain ⟨hki, hku⟩ := set_unlisted hu
            exact (List.mem_erase_of_ne hki).2 (hall k hk hku))
          (by rw [List.length_erase_of_mem (hall i his hun)]; omega) ((List.mem_erase_of_ne (Ne.symm e)).2 hnr)
        exact ⟨i :: L, by rw [hL]; rfl, fun j hj => by rcases List.mem_cons.1 hj with rfl | hj; exact e; exact hLn j hj⟩

def QC (P : Program) (ops : Array Oper) (Q : Exit → Act → World → Prop) (n : Nat) : Exit → Act → World → Prop := fun e a w => e = .normal ∧ RW P ops Q [n] a w
theorem qc_out {n : Nat} : ¬ LetsOut (QC P ops Q n) := fun ⟨_, _, h, _⟩ => by cases h

theorem rw_part {l : List Oper} {n : Nat} (hn : n + 1 = l.length) (hg : (l.all fun o => o.guard.isNone) = true) : ∀ (L : List Nat), (∀ i ∈ L, i ≠ n) → ∀ a w, wpOps P (nopLast l).toArray (QC P l.toArray Q n) (L ++ [n]) a w → RW P l.toArray Q (L ++ [n]) a w := by
  have hwant : ∀ (o : Oper) (f : Nat → Option Bool), o.guard = none → Region.wanted o f = true := fun o f h => by simp [Region.wanted, h]
  intro L
  induction L with
  | nil =>
    intro _ a w h
    have ho : (nopLast l).toArray[n]? = l[n]?.map nop := by rw [List.getElem?_toArray]; exact nopLast_last l n hn
    obtain ⟨o, hl⟩ : ∃ o, l[n]? = some o := ⟨_, List.getElem?_eq_getElem (by omega)⟩
    rw [hl] at ho
    simp only [List.nil_append, wpOps, ho, Option.map_some] at h
    rw [if_pos (hwant _ _ rfl)] at h
    rcases h with h | ⟨_, h⟩
    · have : (execOp a.eval (nop o)).run P w = .ok (.value (.bool true)) w := by simp [execOp, nop, Act.eval]
      unfold Oper.wp at h
      rw [this, Oper.upon_value] at h
      exact h.2
    · exact absurd h qc_out
  | cons i rest ih =>
    intro hL a w h
    have hi : i ≠ n := hL i (List.mem_cons_self)
    have hoi : (nopLast l).toArray[i]? = l.toArray[i]? := by simp only [List.getElem?_toArray]; exact nopLast_get l i (by omega)
    have ih := ih (fun j hj => hL j (List.mem_cons_of_mem _ hj))
    simp only [List.cons_append, wpOps] at h
    rw [hoi] at h
    show RW P l.toArray Q (i :: (rest ++ [n])) a w
    intro b k cs hb
    cases ho : l.toArray[i]? with
    | none =>
      rw [ho] at h
      obtain ⟨e, a', w', hq, harr⟩ := ih a w h b k cs hb
      have hs := step_op_skip (P := P) (b := b) (a := a) (k := k) (cs := cs) (w := w) (ops := l.toArray) (i := i) (rest := rest ++ [n]) (by rw [ho]; rfl)
      rw [ho] at hs
      exact ⟨e, a', w', hq, .of_steps (.one hs) harr⟩
    | some o =>
      rw [ho] at h
      have hgo : o.guard = none := by
        have hm : o ∈ l := by rw [List.getElem?_toArray] at ho; exact List.mem_of_getElem? ho
        have := List.all_eq_true.1 hg o hm
        simpa using this
      simp only [hwant o _ hgo, if_true] at h
      rcases h with h | ⟨_, h⟩
      case inr => exact absurd h qc_out
      have hw := hwant o (yielded l.toArray a.tmps) hgo
      simp only [Oper.wp, Oper.upon] at h
      have hgs := stepG_op (P := P) (b := b) (k := k) (cs := cs) (w := w) (rest := rest ++ [n]) ho hw
      have hfin : ∀ v, (b.at a (.inRegion l.toArray (i :: (rest ++ [n])) :: k)).finish v = b.at (a.put o.dst v) (.inRegion l.toArray (rest ++ [n]) :: k) := by
        intro v; rw [Frame.finish_at, ho]; rfl
      split at h
      · rename_i v w' hr
        obtain ⟨e, a', w'', hq, harr⟩ := ih _ _ h b k cs hb
        refine ⟨e, a', w'', hq, .of_steps (.one (step_lone_go ?_)) harr⟩
        rw [hgs, ← hfin]; simp [stepG.apply, hr]
      · rename_i w' hr
        obtain ⟨e, a', w'', hq, harr⟩ := ih _ _ h b k cs hb
        refine ⟨e, a', w'', hq, .of_steps (.one (step_lone_go ?_)) harr⟩
        rw [hgs, ← hfin]; simp [stepG.apply, hr]
      · rename_i d w' hr
        obtain ⟨e, a', w'', hq, harr⟩ := ih _ _ h b k cs hb
        refine ⟨e, a', w'', hq, .of_steps (.one (step_lone_go ?_)) harr⟩
        have : ({ b.at a (.inRegion l.toArray (i :: (rest ++ [n])) :: k) with defers := d :: a.defers } : Frame).finish undef =
            b.at ({ a with defers := d :: a.defers }.put o.dst undef) (.inRegion l.toArray (rest ++ [n]) :: k) := by
          have := Frame.finish_at b { a with defers := d :: a.defers } l.toArray i (rest ++ [n]) k undef
          rw [ho] at this; exact this
        rw [hgs]; simp only [stepG.apply, Sem.runT_eq, hr, GStep.bare_after]
        exact congrArg (fun fr => GStep.go { frame := fr, callers := cs, status := .running, dying := none } w') this
      · rename_i f args w' hr
        obtain ⟨e, w'', fr, hR, hsteps, _, hleave⟩ := h (b.at a (.inRegion l.toArray (i :: (rest ++ [n])) :: k) :: cs)
        have henter : step P (lone (b.at a (.inRegion l.toArray (i :: (rest ++ [n])) :: k)) cs w) =
            .next (lone (Frame.enter P f args .normal) (b.at a (.inRegion l.toArray (i :: (rest ++ [n])) :: k) :: cs) w') :=
          step_lone_go (by rw [hgs]; simp [stepG.apply, hr, Frame.at])
        cases e with
        | returned v =>
          obtain ⟨e, a', w₃, hq, harr⟩ := ih _ _ hR b k cs hb
          refine ⟨e, a', w₃, hq, .of_steps (.head henter (hsteps.trans (.one ?_))) harr⟩
          rw [← hfin]; exact step_leave_returned hleave
        | panicked chain => exact absurd hR.1 (by simp)
        | outgrown => exact absurd hR qc_out
      · rename_i row args w' hr
        obtain ⟨v, w'', hR, hsteps⟩ := h (b.at a (.inRegion l.toArray (i :: (rest ++ [n])) :: k)) cs
        have henter : step P (lone (b.at a (.inRegion l.toArray (i :: (rest ++ [n])) :: k)) cs w) =
            .next (lone (Frame.ofRow P row args .normal) (b.at a (.inRegion l.toArray (i :: (rest ++ [n])) :: k) :: cs) w') :=
          step_lone_go (by rw [hgs]; simp [stepG.apply, hr, Frame.at])
        obtain ⟨e, a', w₃, hq, harr⟩ := ih _ _ hR b k cs hb
        refine ⟨e, a', w₃, hq, .of_steps (.head henter ?_) harr⟩
        rw [← hfin]; exact hsteps
      · exact absurd h.1 (by simp)
      · exact h.elim

theorem NW.region_lex_comm {id : Nat} {l : List Oper} (n : Nat) (C : World → Prop) (S T D : List Nat) (hm : P.follows .mixedOrders = true) (hn : n + 1 = l.length) (hB : anyB (nopLast l).toArray S T D = true)
    (hE : lastB (nopLast l).toArray n = true) (hg : (l.all fun o => o.guard.isNone) = true) (hC : Needs D (nopLast l).zipIdx → C w.drew)
    (h : Lex P (nopLast l).toArray C S T D (QC P l.toArray Q n) (nopLast l).zipIdx a w.drew) : NW P (.region id l.toArray true) Q a w := by
  intro b k cs hb
  have hdraw := step_region_draw (P := P) (b := b) (a := a) (k := k) (cs := cs) (w := w) (ops := l.toArray) (id := id)
  generalize w.tape w.drawn (.order b.fn id) = t at hdraw
  have hsch : Region.schedule (P.follows .mixedOrders) l.toArray t = Region.linearise.go .any l.toArray l.toArray.size t (Array.replicate l.toArray.size false) [] := by
    simp only [Region.schedule, hm, Bool.true_or, if_true]; rfl
  have hsame : ∀ fuel t listed, Region.linearise.go .any (nopLast l).toArray fuel t listed [] = Region.linearise.go .any l.toArray fuel t listed [] := by
    intro fuel
    induction fuel with
    | zero => intro t listed; rfl
    | succ fuel ih =>
      intro t listed
      simp only [Region.linearise.go]
      change (match (Region.ready .any (nopLast l).toArray listed)[t % (Region.ready .any (nopLast l).toArray listed).length]? with
        | some i => Region.linearise.go .any (nopLast l).toArray fuel (t / (Region.ready .any (nopLast l).toArray listed).length) (listed.setIfInBounds i true) [i]
        | none => [].reverse) = (match (Region.ready .any l.toArray listed)[t % (Region.ready .any l.toArray listed).length]? with
        | some i => Region.linearise.go .any l.toArray fuel (t / (Region.ready .any l.toArray listed).length) (listed.setIfInBounds i true) [i]
        | none => [].reverse)
      rw [ready_nop]
      split
      · rename_i i _
        rw [linearise_go_acc, linearise_go_acc (acc := [i]), ih]
      · rfl
  rw [hsch] at hdraw
  obtain ⟨L, hL, hLn⟩ := go_ends (nopLast l).toArray n hE (by simp only [List.size_toArray, length_nopLast]; omega) (fun j oj hj => ((anyB_spec hB).2 j oj hj).1) (nopLast l).toArray.size (List.range (nopLast l).toArray.size) t (Array.replicate (nopLast l).toArray.size false)
    ⟨by simp, fun j oj _ hl => (by rw [getD_replicate_false] at hl; cases hl), fun t ht ht' => absurd ht' (by omega)⟩ (fun i hi => ⟨List.mem_range.1 hi, getD_in (by rw [Array.size_replicate]; exact List.mem_range.1 hi) (getD_replicate_false _ _)⟩) List.pairwise_lt_range (fun i hi _ => List.mem_range.2 hi) List.length_range (List.mem_range.2 (by simp only [List.size_toArray, length_nopLast]; omega))
  rw [hsame] at hL
  simp only [List.size_toArray, length_nopLast] at hL hdraw
  rw [hL] at hdraw
  have hany := any_of_lex hB (nopLast l).length (nopLast l).zipIdx (Array.replicate (nopLast l).length false) a w.drew ⟨by simp, fun j oj _ hl => (by rw [getD_replicate_false] at hl; cases hl), fun t ht ht' => absurd ht' (by omega)⟩ (fun p hp => by
      obtain ⟨h1, h2⟩ := List.mem_zipIdx' hp
      refine ⟨by simp [h2], getD_in (by simpa using h1) (getD_replicate_false _ _)⟩)
    (by
      have : (nopLast l).zipIdx.Pairwise (fun p q => p.2 < q.2) := by
        rw [List.pairwise_iff_getElem]
        intro i j hi hj hij
        simp only [List.getElem_zipIdx]
        omega
      exact this)
    (fun j o ho _ => by rw [List.mem_zipIdx_iff_getElem?]; simpa using ho) (by simp) hC h
  have hops := wpAny_sound (nopLast l).length t _ a _ hany
  rw [hsame, length_nopLast] at hops
  rw [hL] at hops
  obtain ⟨e, a', w', hq, harr⟩ := rw_part hn hg L hLn a w.drew hops b k cs hb
  exact ⟨e, a', w', hq, .of_steps (.one hdraw) harr⟩
end
end Go.Proofs.YtmkpajhfgdffpaaDoor.Sh
