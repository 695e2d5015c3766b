/- The walk of ShaSums. -/
import Derived.Test.YtkfoalfnjeachaaDoorShTwo
import Derived.Test.YtkfoalfnjeachaaDoorShRefD
namespace Go.Proofs.YtkfoalfnjeachaaDoor.Sh
open Go Go.RowKit

section
variable {P : Program} {ops : Array Oper} {S T D : List Nat} {Q : Exit → Act → World → Prop}
/-- The next operation loads a whole row, the same in every world of the class. -/
theorem lex_load_row {F : World → Prop} {o : Oper} {j : Nat} {r : List (Oper × Nat)} {a : Act} {w : World} (hS : S.contains j = false) (hD : D.contains j = true) (hw : Region.wanted o (yielded ops a.tmps) = true)
    (ty : TypeId) (x : Operand) (ho : o.op = .load ty x) (g : Nat) (hx : a.eval x = .pointer (some ⟨g, 0, none⟩)) (t : TypeId) (cs : Array Value) (fr : Nat × Nat) (d : TypeDesc) (hg : ∀ w, F w → w.heap[g]? = some (.cells cs t fr))
    (hu : P.underlying ty = some d) (hd : (match d with | .struct _ | .array _ _ => true | _ => false) = true) (hi : (P.info? ty).map (·.size) = some cs.size)
    (h : Lex P ops F S T D Q r (a.put o.dst (.agg cs)) w) : Lex P ops F S T D Q ((o, j) :: r) a w := by
  unfold Lex
  rw [if_neg (by rw [hS]; exact Bool.false_ne_true)]
  refine ⟨.agg cs, .inl ⟨hw, fun w' hC => .inl ?_⟩, h⟩
  rw [if_pos hD] at hC
  unfold execOp
  simp only [ho, hx, Instr.loadAt, Instr.sureAddr, Sem.run_bind, Sem.run_pure, Result.andThen_ok, run_loadVar_row w' g t ty cs fr d (hg w' hC) hu hd hi]
end

theorem one_u8 (x : Int) : (Value.int .u8 x).cells.all (·.oneCell') = true := by simp [Value.cells, Value.oneCell']
theorem cells_u8 (x : Int) : (Value.int .u8 x).cells = #[.int .u8 x] := by simp [Value.cells]
theorem put_A32 (m : Bs) : put z32 0 (Value.agg (A32 (sha m))).cells = A32 (sha m) := put_whole _ _ (by show 32 = (A32 (sha m)).size; rw [size_A32, length_sha])
theorem RD.capm {B : Nat} {w : World} {ad : Option Addr} {n c : Nat} {m : Bs} (h : RD B w (.slice ad n c) m) : c ≤ maxLen := by
  obtain ⟨a, c', e, _, h2, _⟩ := h
  simp only [Value.slice.injEq] at e
  omega

/-- A hash held, and a digest at q. -/
structure LQ (w0 : World) (p : Nat) (c : Bs) (q : Nat) (w : World) : Prop where
  one : LH w0 p c w
  lt : q < w.heap.size
  want : w.heap[q]? = some (.cells (A32 (sha c)) 23 (0, 0))
theorem LQ.call {w0 w w' : World} {p q : Nat} {c : Bs} (h : LQ w0 p c q w) (hb : Below w.heap.size w w') : LQ w0 p c q w' := ⟨h.one.call hb, by have := h.lt; have := hb.size; omega, heap_below h.want hb h.lt⟩
theorem LQ.drew {w0 w : World} {p q : Nat} {c : Bs} (h : LQ w0 p c q w) : LQ w0 p c q w.drew := h.call (below_drewN' (n := 1) (Below.refl _ _))
theorem sum_LQ (w0 : World) (p : Nat) (c : Bs) (q : Nat) (w : World) (h : LQ w0 p c q w) (hlen : c.length ≤ 549755813888) :
    Calls Tryd.prog 16 #[.pointer (some ⟨p, 0, none⟩)] w fun e w' => e = .returned (.agg (A32 (sha c))) ∧ LQ w0 p c q w' :=
  (sum_calls' p c w h.one.li.tab h.one.hash hlen).mono fun _ _ ⟨h1, h2⟩ => ⟨h1, h.call h2⟩
theorem len_LQ (w0 : World) (p : Nat) (c : Bs) (q : Nat) (w : World) (h : LQ w0 p c q w) :
    Calls Tryd.prog 17 #[.pointer (some ⟨p, 0, none⟩)] w fun e w' => e = .returned (.int .i64 (c.length : Int)) ∧ w = w' := len_calls p c w h.one.hash
theorem shaSum_LQ (w0 : World) (p : Nat) (c : Bs) (q : Nat) (x : Bs) (v : Value) (w : World) (h : LQ w0 p c q w) (hx : RD w0.heap.size w0 v x) (hlen : x.length ≤ 549755813888) :
    Calls Tryd.prog 10 #[v] w fun e w' => e = .returned (.agg (A32 (sha x))) ∧ LQ w0 p c q w' :=
  (shaSum_calls v x w h.one.li.tab (h.one.li.rd hx) hlen).mono fun _ _ ⟨h1, h2⟩ => ⟨h1, h.call h2⟩
theorem works_LQ (w0 : World) (p : Nat) (c : Bs) (q : Nat) (w : World) (h : LQ w0 p c q w) :
    Calls Tryd.prog 11 #[] w fun e w' => e = .returned (.bool true) ∧ LQ w0 p c q w' :=
  (works_calls w h.one.li.tab).mono fun _ _ ⟨h1, h2⟩ => ⟨h1, h.call h2⟩

/-- The copy that is written over, from the i-th byte on. -/
def InAt (wr : World) (ad : Option Addr) (g cap : Nat) (m : Bs) (i : Nat) : Prop :=
  0 < m.length → ad = some ⟨g, 0, none⟩ ∧ ∃ l : List Value, wr.heap[g]? = some (.cells l.toArray 5 (0, 0)) ∧ l.length = cap ∧ ∀ j, i ≤ j → j < m.length → l[j]? = some (bv (m.getD j 0))
/-- Ahead of the hash: the copy, and the digest at q. -/
structure S3 (w0 : World) (m : Bs) (ad : Option Addr) (g cap q : Nat) (w : World) : Prop where
  li : LI w0 w
  inn : InAt w ad g cap m 0
  lt : q < w.heap.size
  want : w.heap[q]? = some (.cells (A32 (sha m)) 23 (0, 0))
  rd : RD w.heap.size w (.slice ad m.length cap) m
  le : m.length ≤ cap
  ne : g ≠ q
  gl : 0 < m.length → g < w.heap.size
  lg : 0 < m.length → w0.heap.size ≤ g
  top : 0 < m.length ∨ g = 0
structure SumsAt (w0 : World) (m : Bs) (n p : Nat) (ad : Option Addr) (g cap q i : Nat) (w : World) : Prop where
  lh : LH w0 p (m.take n) w
  inn : InAt w ad g cap m i
  lt : q < w.heap.size
  want : w.heap[q]? = some (.cells (A32 (sha m)) 23 (0, 0))
  buf : ∃ lv, w.cell? ⟨p, 8, none⟩ = some lv ∧ ∀ a l c, lv = .slice (some a) l c → a.block ≠ g
  le : m.length ≤ cap
  capm : cap ≤ maxLen
  nilc : ad = none → cap = 0
  pg : p ≠ g
  pq : p ≠ q
  gq : g ≠ q
  lg : 0 < m.length → w0.heap.size ≤ g

theorem s3_start {w0 w1 w2 w3 : World} {m : Bs} {v3 : Value} (ht : Tab w0) (hb1 : Below w0.heap.size w0 w1) (hu : Upd w1.heap.size (.cells (A32 (sha m)) 23 (0, 0)) (w1.alloc (.cells z32 23)) w2)
    (ho : Own w2.heap.size w3 v3 m) (hb3 : Below w2.heap.size w2 w3) : ∃ ad cap g, v3 = .slice ad m.length cap ∧ S3 w0 m ad g cap w1.heap.size w3 := by
  have hs2 : w2.heap.size = w1.heap.size + 1 := by rw [hu.size]; simp
  have h01 := hb1.size
  have h23 := hb3.size
  have hb2 : Below w0.heap.size w0 w2 := (hb1.alloc (by omega) _).trans (hu.below (by omega))
  have li3 : LI w0 w3 := (LI.start ht).call (hb2.trans (hb3.mono (by omega)))
  have hwant : w3.heap[w1.heap.size]? = some (.cells (A32 (sha m)) 23 (0, 0)) := heap_below hu.here hb3 (by omega)
  have hrd := ho.rd
  have h2 := ht.lt
  obtain ⟨_, ⟨rfl, h0⟩ | ⟨g, cap, cur, rfl, hg, hh, hc, hm, hcs, htk⟩⟩ := ho
  · refine ⟨none, 0, 0, by rw [h0], li3, fun h => by omega, by omega, hwant, ?_, by omega, by omega, fun h => by omega, fun h => by omega, .inr rfl⟩
    rw [h0]; exact hrd
  · refine ⟨_, cap, if 0 < m.length then g else 0, rfl, li3, fun h => ?_, by omega, hwant, hrd, hc, ?_, fun h => ?_, fun h => ?_, ?_⟩
    · rw [if_pos h]
      refine ⟨rfl, cur.toList, by simpa using hh, by simpa using hcs, fun j _ hj => ?_⟩
      have : (cur.toList.take (m.length * 1))[j]? = (m.map bv)[j]? := by rw [htk]
      rw [List.getElem?_take, if_pos (by omega)] at this
      rw [this, List.getElem?_map, List.getD_eq_getElem?_getD, List.getElem?_eq_getElem hj]
      rfl
    · split <;> omega
    · rw [if_pos h]; exact lt_of_heap hh
    · rw [if_pos h]; omega
    · by_cases h : 0 < m.length
      · exact .inl h
      · exact .inr (if_neg h)
theorem sums_tab {w0 w3 w4 : World} {m : Bs} {ad : Option Addr} {g cap q : Nat} (h : S3 w0 m ad g cap q w3) (hb : Below w3.heap.size w3 w4) : Tab w4 := h.li.tab.below hb h.li.tab.lt
theorem sums_rd {w0 w3 w4 : World} {m : Bs} {ad : Option Addr} {g cap q : Nat} (h : S3 w0 m ad g cap q w3) (hb : Below w3.heap.size w3 w4) : RD w4.heap.size w4 (.slice ad m.length cap) m := (h.rd.below hb).mono hb.size
theorem sums_two {w0 w3 w4 : World} {m : Bs} {ad : Option Addr} {g cap q : Nat} (h : S3 w0 m ad g cap q w3) (hb : Below w3.heap.size w3 w4) : 2 ≤ w3.heap.size := h.li.tab.lt
theorem sums_start {w0 w3 w4 w5 : World} {m : Bs} {ad : Option Addr} {g cap q n : Nat} (ht : Tab w0) (h : S3 w0 m ad g cap q w3) (hb4 : Below w3.heap.size w3 w4) (hh4 : HashAt w4 w3.heap.size []) (hh5 : HashAt w5 w3.heap.size (m.take n)) (hk5 : Keeps w4.heap.size w3.heap.size w4 w5) (hf5 : BufFrom w5 w3.heap.size w4.heap.size)
    (hcap : cap ≤ maxLen) : SumsAt w0 m n w3.heap.size ad g cap q 0 w5 := by
  have h34 := hb4.size
  have h03 := h.li.bel.size
  have hlt := h.lt
  have hp := hh4.lt
  have li4 : LI w0 w4 := h.li.call hb4
  have lh4 : LH w0 w3.heap.size [] w4 := ⟨li4, h03, hh4⟩
  have h2 := ht.lt
  refine ⟨lh4.write hh5 hk5 ht, fun h0 => ?_, by have := hk5.size; omega, (hk5.block q (by omega) (by omega)).trans (heap_below h.want hb4 hlt), ?_, h.le, hcap, ?_, ?_, by omega, h.ne, h.lg⟩
  · obtain ⟨e, l, h1, h3⟩ := h.inn h0
    have hgl := h.gl h0
    exact ⟨e, l, (hk5.block g (by omega) (by omega)).trans (heap_below h1 hb4 hgl), h3⟩
  · obtain ⟨lv, h1, h3⟩ := hf5
    refine ⟨lv, h1, fun a l c e => ?_⟩
    have := h3 a l c e
    rcases h.top with h0 | h0
    · have := h.gl h0; omega
    · omega
  · obtain ⟨a, c, e, _, _, hn, _⟩ := h.rd
    simp only [Value.slice.injEq] at e
    obtain ⟨rfl, _, rfl⟩ := e
    exact hn
  · rcases h.top with h0 | h0
    · have := h.gl h0; omega
    · omega
theorem HashAt.upd {w w' : World} {p g : Nat} {m : Bs} {o : Obj} (h : HashAt w p m) (hb : ∃ lv, w.cell? ⟨p, 8, none⟩ = some lv ∧ ∀ a l c, lv = .slice (some a) l c → a.block ≠ g) (hu : Upd g o w w') (hpg : p ≠ g) : HashAt w' p m := by
  obtain ⟨v, lv, h1, h2, h3⟩ := h.here
  obtain ⟨lv', e1, e2⟩ := hb
  rw [cell_of_row w p 8 _ _ _ h1] at e1
  obtain rfl : lv = lv' := by
    have : (((v.list.map wv) ++ [lv, .int .i64 (m.length : Int)]).toArray)[8]? = some lv := rfl
    rw [this] at e1
    simpa using e1
  refine ⟨v, lv, heap_upd h1 hu hpg, ?_, h3⟩
  obtain ⟨a, c, rfl, r1, r2, r3, r4⟩ := h2
  refine ⟨a, c, rfl, r1, r2, r3, fun hne => ?_⟩
  obtain ⟨b, o2, rfl, hbl, hcell⟩ := r4 hne
  have hbg : b ≠ g := e2 _ _ _ rfl
  exact ⟨b, o2, rfl, by rw [hu.size]; exact hbl, fun j u hj => (hu.cell (a := ⟨b, o2 + j, none⟩) hbg).trans (hcell j u hj)⟩
theorem SumsAt.cell {w0 w : World} {m : Bs} {n p : Nat} {ad : Option Addr} {g cap q i : Nat} (h : SumsAt w0 m n p ad g cap q i w) (hi : i < m.length) : w.cell? ⟨g, i, none⟩ = some (.int .u8 ((m.getD i 0).toNat : Int)) := by
  obtain ⟨_, l, h1, _, h3⟩ := h.inn (by omega)
  rw [cell_of_row w g i _ _ _ h1, List.getElem?_toArray, h3 i (Nat.le_refl _) hi]; rfl
theorem SumsAt.step {w0 w w' : World} {m : Bs} {n p : Nat} {ad : Option Addr} {g cap q i : Nat} (ht : Tab w0) (h : SumsAt w0 m n p ad g cap q i w) (hi : i < m.length) {l : List Value} {x : Value} (h1 : w.heap[g]? = some (.cells l.toArray 5 (0, 0))) (hl : l.length = cap) (h3 : ∀ j, i ≤ j → j < m.length → l[j]? = some (bv (m.getD j 0)))
    (hx : x.cells = #[x]) (hu : Upd g (.cells (put l.toArray i x.cells) 5 (0, 0)) w w') : SumsAt w0 m n p ad g cap q (i + 1) w' := by
  have hlg := h.lg (by omega)
  have hle := h.le
  have h2 := ht.lt
  have hpu : put l.toArray i x.cells = (l.set i x).toArray := put_one l i x hx (by omega)
  rw [hpu] at hu
  have hbel : Below w0.heap.size w0 w' := h.lh.li.bel.trans (hu.below hlg)
  refine ⟨⟨(LI.start ht).call hbel, h.lh.own, h.lh.hash.upd h.buf hu h.pg⟩, fun h0 => ⟨(h.inn h0).1, l.set i x, hu.here, by rw [List.length_set]; exact hl, fun j hj hjm => ?_⟩, by rw [hu.size]; exact h.lt, heap_upd h.want hu (Ne.symm h.gq), ?_, h.le, h.capm, h.nilc, h.pg, h.pq, h.gq, h.lg⟩
  · rw [List.getElem?_set_ne (by omega)]; exact h3 j (by omega) hjm
  · obtain ⟨lv, e1, e2⟩ := h.buf
    exact ⟨lv, (hu.cell (a := ⟨p, 8, none⟩) h.pg).trans e1, e2⟩
theorem SumsAt.rest {w0 w : World} {m : Bs} {n p : Nat} {ad : Option Addr} {g cap q : Nat} (h : SumsAt w0 m n p ad g cap q n w) (hn : n ≤ m.length) {u : Value} (hur : ∀ B w xs, RV B w (.slice ad m.length cap) xs → RV B w u (xs.drop n)) (hnil : m.length = 0 → RD w.heap.size w u []) : RD w.heap.size w u (m.drop n) := by
  rcases Nat.eq_zero_or_pos m.length with h0 | h0
  · rw [List.length_eq_zero_iff.1 h0, List.drop_nil]; exact hnil h0
  · obtain ⟨rfl, l, h1, hl, h3⟩ := h.inn h0
    have hle := h.le
    have hlen : (l.take m.length).length = m.length := by rw [List.length_take]; omega
    have hv : RV w.heap.size w (.slice (some ⟨g, 0, none⟩) m.length cap) (l.take m.length) := by
      refine ⟨some ⟨g, 0, none⟩, cap, by rw [hlen], by omega, h.capm, fun e => (by cases e), fun _ => ⟨g, 0, rfl, lt_of_heap h1, fun j u hj => ?_⟩⟩
      rw [cell_of_row w g (0 + j) _ _ _ h1, List.getElem?_toArray, Nat.zero_add]
      rw [List.getElem?_take] at hj
      split at hj
      · exact hj
      · cases hj
    have hr := hur _ _ _ hv
    have e : (l.take m.length).drop n = (m.drop n).map bv := by
      apply List.ext_getElem?
      intro j
      rw [List.getElem?_drop, List.getElem?_take, List.getElem?_map, List.getElem?_drop]
      by_cases hj : n + j < m.length
      · rw [if_pos hj, h3 (n + j) (by omega) hj, List.getD_eq_getElem?_getD, List.getElem?_eq_getElem hj]; rfl
      · rw [if_neg hj, List.getElem?_eq_none (by omega)]; rfl
    rw [e] at hr
    exact hr
theorem SumsAt.write {w0 w w' : World} {m : Bs} {n p : Nat} {ad : Option Addr} {g cap q i : Nat} (ht : Tab w0) (h : SumsAt w0 m n p ad g cap q i w) (hh : HashAt w' p m) (hk : Keeps w.heap.size p w w') : LQ w0 p m q w' :=
  ⟨h.lh.write hh hk ht, by have := h.lt; have := hk.size; omega, (hk.block q h.lt (Ne.symm h.pq)).trans h.want⟩

set_option maxRecDepth 4000 in
set_option maxHeartbeats 1000000 in
theorem sums_calls (w : World) (ht : Tab w) (v : Value) (m0 : Bs) (hv : RD w.heap.size w v m0) (z : Int) (fz : Fits z) :
    Calls Tryd.prog 4 #[v, .int .i64 z] w fun e w' => e = .returned (.bool true) ∧ Below w.heap.size w w' := by
  obtain ⟨a, c, rfl, hc, hcm⟩ := hv.form
  obtain ⟨k, hk, hk2, hmin0⟩ := min_to m0.length 1000
  have hmin : (if (1000 : Int) < (m0.length : Int) then (1000 : Int) else (m0.length : Int)) = (k : Int) := hmin0
  clear hmin0
  obtain ⟨u, hu, hur⟩ := rd_to (a := a) (n := m0.length) (c := c) .i64 k hk hc
  have hm := hur _ _ _ hv
  clear hur hv
  have hml : (m0.take k).length = k := by rw [List.length_take]; omega
  generalize m0.take k = m at hm hml
  obtain ⟨ua, uc, rfl, huc, _⟩ := hm.form
  rw [hml] at hu huc
  subst hml
  have hx0 := Int.emod_nonneg z (b := (m.length : Int) + 1) (by omega)
  have hx1 := Int.emod_lt_of_pos z (b := (m.length : Int) + 1) (by omega)
  obtain ⟨n, hn⟩ : ∃ n : Nat, z % ((m.length : Int) + 1) = n := ⟨(z % ((m.length : Int) + 1)).toNat, by omega⟩
  rw [hn] at hx0 hx1
  have hnL : n ≤ m.length := by omega
  have HN := Lib.hid hn
  clear hn hx0 hx1
  replace hm := Lib.hid hm
  have HT := Lib.hid ht
  have hl3 : (m.take n).length = n := by rw [List.length_take]; omega
  have hlen1 : ([] : Bs).length + (m.take n).length ≤ 1099511627776 := by
    have : ([] : Bs).length = 0 := rfl
    omega
  have hlen2 : (m.take n).length + (m.drop n).length ≤ 1099511627776 := by rw [hl3, List.length_drop]; omega
  have hlm : m.length ≤ 549755813888 := by omega
  have hlm2 : m.length ≤ 500000 := by omega
  have hlm3 : m.length ≤ 140737488355328 := by omega
  have HLEN1 := Lib.hid hlen1
  have HLEN2 := Lib.hid hlen2
  have HLM := Lib.hid hlm
  have HLM2 := Lib.hid hlm2
  have HLM3 := Lib.hid hlm3
  have HL3 := Lib.hid hl3
  clear hl3 hlen1 hlen2 hlm hlm2 hlm3
  have heq : ∀ w, (binOp .eql 23 (.agg (A32 (sha m))) (.agg (A32 (sha m)))).run Tryd.prog w = .ok (.bool true) w := fun w => run_eql_same (sha m) (length_sha m) w
  go_enter Tryd.func4, Tryd.ntmps4
  go_upto_region 3 with (first
    | (go_at_call 12; refine (rsum_calls _ m w hm.out HLM2.out).mono ?_; rintro e w1 ⟨rfl, hb1⟩; replace hb1 := Lib.hid hb1)
    | (refine wpList_store_upd rfl 23 (.tmp 5) (.tmp 16) rfl w1.heap.size 0 (.agg (A32 (sha m))) rfl rfl _ z32 (heap_new w1 _) (info_A32 m) (le_A32 m) (one_A32 _) rfl ?_; intro w2 hu2; rw [put_A32] at hu2; replace hu2 := Lib.hid (show Upd w1.heap.size (.cells (A32 (sha m)) 23 (0, 0)) (w1.alloc (.cells z32 23)) w2 from hu2)))
  have hb2 : Below w.heap.size w w2 := (hb1.out.alloc hb1.out.size _).trans (hu2.out.below hb1.out.size)
  have hm2 : Hid (RD w2.heap.size w2 (.slice ua m.length uc) m) := Lib.hid ((hm.out.below hb2).mono hb2.size)
  clear hb2 hmin hu
  go_upto_region 4 with (go_at_call 13; refine (copyBytes_calls _ m w2 hm2.out HLM3.out).mono ?_; rintro e w3 ⟨v3, rfl, ho3, hb3⟩; replace ho3 := Lib.hid ho3; replace hb3 := Lib.hid hb3)
  obtain ⟨ad, cap, g, rfl, hS3⟩ := s3_start ht hb1.out hu2.out ho3.out hb3.out
  have hS := Lib.hid hS3
  have hle := hS3.le
  have hcapm : cap ≤ maxLen := hS3.rd.capm
  have HCAPM := Lib.hid hcapm
  generalize w1.heap.size = q at *
  clear hS3 ho3 hb3 hm2 hu2 hb1 hcapm
  obtain ⟨u3, hu3, hur3'⟩ := rd_to (a := ad) (n := m.length) (c := cap) .i64 n hnL hle
  have hur3 := Lib.hid hur3'
  clear hur3'
  go_upto_region 5 with (go_at_call 9; go_loud (refine (bring_calls z ((m.length : Int) + 1) (by omega) (by omega) fz.1 fz.2 _).mono ?_; rintro e w8 ⟨rfl, rfl⟩; rw [HN.out]))
  refine wp_region_lex Every [0, 4] [] [] (by kernel_rfl) (by kernel_rfl) (fun _ => trivial) ?_
  simp only [List.zipIdx_cons, List.zipIdx_nil, Nat.zero_add, Nat.reduceAdd]
  refine lex_act rfl rfl (fun K hK => ?_)
  go_simp
  refine (new_calls _).mono ?_
  rintro e w4 ⟨rfl, hh4, hb4, _⟩
  refine hK _ _ (ActLeft.keep rfl fun h => h) ?_
  clear hK K
  replace hh4 := Lib.hid (show HashAt w4 w3.heap.size [] from hh4)
  replace hb4 := Lib.hid (below_drew hb4)
  refine lex_blind 3 (by kernel_rfl) ?_
  simp only [List.take_succ_cons, List.take_zero, List.drop_succ_cons, List.drop_zero, List.map_cons, List.map_nil, Act.put, List.setIfInBounds_toArray, List.set_cons_succ, List.set_cons_zero]
  repeat (go_big_quiet_step (fail))
  refine wpQuiet_nil ?_
  refine lex_act rfl rfl (fun K hK => ?_)
  go_simp
  refine (write_calls_fresh w3.heap.size [] (m.take n) u3 w4 (sums_tab hS.out hb4.out) hh4.out (hur3.out _ _ _ (sums_rd hS.out hb4.out)) (sums_two hS.out hb4.out) HLEN1.out).mono ?_
  rintro e w5 ⟨rfl, hh5, hk5, hf5⟩
  rw [List.nil_append] at hh5
  refine hK _ _ (ActLeft.keep rfl fun h => h) ?_
  clear hK K
  refine lex_blind 1 (by kernel_rfl) ?_
  simp only [List.take_succ_cons, List.take_zero, List.drop_succ_cons, List.drop_zero, List.map_cons, List.map_nil, Act.put, List.setIfInBounds_toArray, List.set_cons_succ, List.set_cons_zero]
  repeat (go_big_quiet_step (fail))
  refine wpQuiet_nil ?_
  refine lex_nil ?_
  have hA := Lib.hid (sums_start HT.out hS.out hb4.out hh4.out hh5 hk5 hf5 HCAPM.out)
  generalize w3.heap.size = p at *
  clear hh5 hk5 hf5 hb4 hh4 hS hu3 hur3
  go_wp2_with fail
  go_loopg [9] n (fun gk iv wr => ∃ i : Nat, i + gk = n ∧ iv = .int .i64 i ∧ SumsAt w m n p ad g cap q i wr)
  case atStart => exact ⟨0, by omega, rfl, hA.out⟩
  case round =>
    obtain ⟨i, hi, rfl, hB⟩ := hrel
    clear hA
    have HB := Lib.hid hB
    by_cases hlt : i < n
    · have him : i < m.length := by omega
      have hc := hB.cell him
      obtain ⟨rfl, l, h1, hl, h3⟩ := hB.inn (by omega)
      have H1 := Lib.hid h1
      have HL := Lib.hid hl
      have H3 := Lib.hid h3
      have hle2 : (put l.toArray i #[]).size ≤ (put l.toArray i #[]).size := Nat.le_refl _
      have hil : i + 1 ≤ l.toArray.size := by simp; omega
      have HIL := Lib.hid hil
      generalize m.getD i 0 = b0 at hc
      clear hB h1 hl h3 hle2 hil
      go_wp2_with (refine wpList_store_upd rfl 5 (.tmp 41) (.tmp 40) rfl g i (.int .u8 (bits .xor .u8 (b0.toNat : Int) 90)) rfl rfl _ l.toArray H1.out info_u8 HIL.out (one_u8 _) rfl ?_; intro w2 hu2)
      have HN2 := Lib.hid (HB.out.step HT.out him H1.out HL.out H3.out (cells_u8 _) hu2)
      clear hu2 HB H1 HL H3 HIL
      go_wp2_with fail
      go_roundg (gk - 1)
      case measure => omega
      case rel => exact ⟨i + 1, by omega, by go_num, HN2.out⟩
    · obtain rfl : i = n := by omega
      obtain ⟨u4, hu4, hur4'⟩ := cut_from (P := Tryd.prog) elem_u8 (a := ad) (n := m.length) (c := cap) .i64 i hnL
      have hrest : Hid (RD wr.heap.size wr u4 (m.drop i)) := by
        refine Lib.hid (hB.rest hnL hur4' fun h0 => ?_)
        have := hur4' wr.heap.size wr [] ?_
        · simpa [RD] using this
        · rw [h0]
          exact ⟨ad, cap, rfl, Nat.zero_le _, hB.capm, hB.nilc, fun h => absurd rfl h⟩
      clear hur4' hB hlt
      go_upto_region 11 with (go_at_call 15; refine (write_calls p (m.take i) (m.drop i) u4 _ HB.out.lh.li.tab HB.out.lh.hash hrest.out ?_ HLEN2.out).mono ?_; (· have := HB.out.lh.own; have := HT.out.lt; omega); rintro e w6 ⟨rfl, hh6, hk6⟩; rw [List.take_append_drop] at hh6; have HE := Lib.hid (HB.out.write HT.out hh6 hk6))
      refine wp_region_lex (fun w => w.heap[q]? = some (.cells (A32 (sha m)) 23 (0, 0))) [1, 6, 12, 18, 24] [] [2, 7, 13] (by kernel_rfl) (by kernel_rfl) (fun _ => HE.out.want) ?_
      simp only [List.zipIdx_cons, List.zipIdx_nil, Nat.zero_add, Nat.reduceAdd]
      refine lex_blind 1 (by kernel_rfl) ?_
      simp only [List.take_succ_cons, List.take_zero, List.drop_succ_cons, List.drop_zero, List.map_cons, List.map_nil, Act.put, List.setIfInBounds_toArray, List.set_cons_succ, List.set_cons_zero]
      repeat (go_big_quiet_step (fail))
      refine wpQuiet_nil ?_
      refine lex_act rfl rfl (fun K hK => ?_)
      go_simp
      refine (shaSum_LQ w p m q m _ _ (HE.out.drew) hm.out HLM.out).mono ?_
      rintro e w7 ⟨rfl, lh7⟩
      refine hK _ _ (ActLeft.keep rfl fun _ => lh7.want) ?_
      clear hK K
      refine lex_load_row rfl rfl rfl 23 (.tmp 5) rfl q rfl _ (A32 (sha m)) (0, 0) _ (fun _ h => h) Tryd.underlying23 rfl (info_A32 m) ?_
      refine lex_blind 3 (by kernel_rfl) ?_
      simp only [List.take_succ_cons, List.take_zero, List.drop_succ_cons, List.drop_zero, List.map_cons, List.map_nil, Act.put, List.setIfInBounds_toArray, List.set_cons_succ, List.set_cons_zero]
      repeat (go_big_quiet_step (fail))
      refine wpQuiet_nil ?_
      refine lex_act rfl rfl (fun K hK => ?_)
      go_simp
      refine (sum_LQ w p m q _ lh7 HLM.out).mono ?_
      rintro e w8 ⟨rfl, lh8⟩
      refine hK _ _ (ActLeft.keep rfl fun _ => lh8.want) ?_
      clear hK K
      refine lex_load_row rfl rfl rfl 23 (.tmp 5) rfl q rfl _ (A32 (sha m)) (0, 0) _ (fun _ h => h) Tryd.underlying23 rfl (info_A32 m) ?_
      refine lex_blind 4 (by kernel_rfl) ?_
      simp only [List.take_succ_cons, List.take_zero, List.drop_succ_cons, List.drop_zero, List.map_cons, List.map_nil, Act.put, List.setIfInBounds_toArray, List.set_cons_succ, List.set_cons_zero]
      repeat (go_big_quiet_step (fail))
      refine wpQuiet_nil ?_
      refine lex_act rfl rfl (fun K hK => ?_)
      go_simp
      refine (sum_LQ w p m q _ lh8 HLM.out).mono ?_
      rintro e w9 ⟨rfl, lh9⟩
      refine hK _ _ (ActLeft.keep rfl fun _ => lh9.want) ?_
      clear hK K
      refine lex_load_row rfl rfl rfl 23 (.tmp 5) rfl q rfl _ (A32 (sha m)) (0, 0) _ (fun _ h => h) Tryd.underlying23 rfl (info_A32 m) ?_
      refine lex_blind 4 (by kernel_rfl) ?_
      simp only [List.take_succ_cons, List.take_zero, List.drop_succ_cons, List.drop_zero, List.map_cons, List.map_nil, Act.put, List.setIfInBounds_toArray, List.set_cons_succ, List.set_cons_zero]
      repeat (go_big_quiet_step (fail))
      refine wpQuiet_nil ?_
      refine lex_act rfl rfl (fun K hK => ?_)
      go_simp
      refine (len_LQ w p m q _ lh9).mono ?_
      rintro e w10 ⟨rfl, rfl⟩
      refine hK _ _ (ActLeft.keep rfl fun _ => lh9.want) ?_
      clear hK K
      refine lex_blind 5 (by kernel_rfl) ?_
      simp only [List.take_succ_cons, List.take_zero, List.drop_succ_cons, List.drop_zero, List.map_cons, List.map_nil, Act.put, List.setIfInBounds_toArray, List.set_cons_succ, List.set_cons_zero]
      repeat (go_big_quiet_step (fail))
      refine wpQuiet_nil ?_
      refine lex_act rfl rfl (fun K hK => ?_)
      go_simp
      refine (works_LQ w p m q _ lh9).mono ?_
      rintro e w11 ⟨rfl, lh11⟩
      refine hK _ _ (ActLeft.keep rfl fun _ => lh11.want) ?_
      clear hK K
      refine lex_blind 2 (by kernel_rfl) ?_
      simp only [List.take_succ_cons, List.take_zero, List.drop_succ_cons, List.drop_zero, List.map_cons, List.map_nil, Act.put, List.setIfInBounds_toArray, List.set_cons_succ, List.set_cons_zero]
      repeat (go_big_quiet_step (fail))
      refine wpQuiet_nil ?_
      refine lex_nil ?_
      go_wp2_with fail
      go_ret
      exact ⟨rfl, lh11.one.li.bel⟩
end Go.Proofs.YtkfoalfnjeachaaDoor.Sh
