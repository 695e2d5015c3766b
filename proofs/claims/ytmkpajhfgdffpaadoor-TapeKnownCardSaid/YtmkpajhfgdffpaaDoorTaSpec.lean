/- What a tape draws, plainly; a tape as it lies in memory. -/
import Derived.Test.YtmkpajhfgdffpaaDoorShHb
import Derived.Test.YtmkpajhfgdffpaaDoorNuNum
import Derived.Test.YtmkpajhfgdffpaaDoorShLH
import Derived.Test.YtmkpajhfgdffpaaDoorTaWp
namespace Go.Proofs.YtmkpajhfgdffpaaDoor.Sh
set_option linter.unusedVariables false
set_option linter.unusedSimpArgs false
open Go Go.RowKit

/-- Block n of a seed. -/
def blk (seed : Bs) (n : Nat) : Bs := sha (seed ++ be 8 n)
theorem length_blk (seed : Bs) (n : Nat) : (blk seed n).length = 32 := length_sha _
/-- Byte i of a tape. -/
def tb (seed : Bs) (i : Nat) : UInt8 := if i < seed.length then seed.getD i 0 else (blk seed ((i - seed.length) / 32)).getD ((i - seed.length) % 32) 0
/-- k bytes from n on. -/
def draw (seed : Bs) (n k : Nat) : Bs := (List.range k).map fun i => tb seed (n + i)
theorem length_draw (seed : Bs) (n k : Nat) : (draw seed n k).length = k := by simp [draw]
theorem draw_zero (seed : Bs) (n : Nat) : draw seed n 0 = [] := rfl
theorem draw_add (seed : Bs) (n a b : Nat) : draw seed n (a + b) = draw seed n a ++ draw seed (n + a) b := by
  unfold draw
  rw [List.range_add, List.map_append, List.map_map]
  congr 1
  apply List.map_congr_left
  intro i _
  simp only [Function.comp_def, Nat.add_assoc]
theorem draw_take (seed : Bs) (n k j : Nat) (h : j ≤ k) : (draw seed n k).take j = draw seed n j := by
  obtain ⟨d, rfl⟩ : ∃ d, k = j + d := ⟨k - j, by omega⟩
  rw [draw_add, List.take_append_of_le_length (by rw [length_draw]; exact Nat.le_refl _), List.take_of_length_le (by rw [length_draw]; exact Nat.le_refl _)]
theorem draw_drop (seed : Bs) (n k j : Nat) (h : j ≤ k) : (draw seed n k).drop j = draw seed (n + j) (k - j) := by
  obtain ⟨d, rfl⟩ : ∃ d, k = j + d := ⟨k - j, by omega⟩
  rw [draw_add, List.drop_append_of_le_length (by rw [length_draw]; exact Nat.le_refl _), List.drop_of_length_le (by rw [length_draw]; exact Nat.le_refl _), List.nil_append]
  congr 1; omega
theorem draw_seed (seed : Bs) : draw seed 0 seed.length = seed := by
  apply List.ext_getElem (length_draw _ _ _)
  intro i h1 h2
  simp only [draw, List.getElem_map, List.getElem_range, tb, Nat.zero_add]
  rw [if_pos h2, List.getD_eq_getElem?_getD, List.getElem?_eq_getElem h2]; rfl
theorem draw_blk (seed : Bs) (k : Nat) : draw seed (seed.length + 32 * k) 32 = blk seed k := by
  apply List.ext_getElem (by rw [length_draw, length_blk])
  intro i h1 h2
  rw [length_draw] at h1
  simp only [draw, List.getElem_map, List.getElem_range, tb]
  rw [if_neg (by omega), show (seed.length + 32 * k + i - seed.length) / 32 = k by omega, show (seed.length + 32 * k + i - seed.length) % 32 = i by omega, List.getD_eq_getElem?_getD, List.getElem?_eq_getElem h2]; rfl

/-- A tape: where it lies; its seed's and its left bytes' slices; its seed; how many bytes are left ahead of the blocks (m), blocks taken (k), blocks that wait (j), bytes drawn (n); its channel. -/
structure TP where
  p : Nat
  sv : Value
  lv : Value
  seed : Bs
  m : Nat
  k : Nat
  j : Nat
  n : Nat
  ch : Option (Nat × Nat × Nat)
  b : Bool
def TP.lf (t : TP) : Bs := draw t.seed t.n t.m
def TP.cells (t : TP) : Array Value := #[t.sv, t.lv, .int .i64 ((t.k + t.j : Nat) : Int), .chan (t.ch.map Prod.fst), .int .i64 (t.n : Int), .bool t.b]
def waits (seed : Bs) (k j : Nat) : Array Value := ((List.range j).map fun i => Value.agg (A32 (blk seed (k + i)))).toArray
theorem size_waits (seed : Bs) (k j : Nat) : (waits seed k j).size = j := by simp [waits]
theorem waits_push (seed : Bs) (k j : Nat) : (waits seed k j).push (.agg (A32 (blk seed (k + j)))) = waits seed k (j + 1) := by
  unfold waits
  rw [List.range_succ, List.map_append]
  simp
theorem waits_head (seed : Bs) (k j : Nat) : (waits seed k (j + 1)).getD 0 undef = .agg (A32 (blk seed k)) := by
  simp [waits]
theorem waits_tail (seed : Bs) (k j : Nat) : (waits seed k (j + 1)).extract 1 (waits seed k (j + 1)).size = waits seed (k + 1) j := by
  rw [size_waits]
  unfold waits
  rw [List.extract_toArray]
  congr 1
  rw [Nat.add_comm j 1, List.range_add]
  simp only [List.extract_eq_take_drop, List.map_append, List.map_map, Nat.add_sub_cancel_left]
  simp only [show List.range 1 = [0] from rfl, List.map_cons, List.map_nil, List.cons_append, List.nil_append, List.drop_succ_cons, List.drop_zero]
  rw [List.take_of_length_le (by simp)]
  apply List.map_congr_left
  intro i _
  simp only [Function.comp_def, Nat.add_assoc]
def TP.chan (t : TP) : List (Nat × Obj) := match t.ch with
  | none => []
  | some (c, s, r) => [(c, .chan 4 (waits t.seed t.k t.j) false s r false)]
def TP.blocks (t : TP) : List (Nat × Obj) := (t.p, .cells t.cells 44 (0, 0)) :: t.chan
def TP.rows (t : TP) : List (Value × Bs) := [(t.sv, t.seed), (t.lv, t.lf)]
structure TP.ok (t : TP) : Prop where
  pos : t.n + t.m = t.seed.length + 32 * t.k
  j4 : t.j ≤ 4
  none : t.ch = none → t.j = 0
  seed : t.seed.length ≤ 65536
  small : t.n ≤ 1000000000
  m : t.m ≤ 65536
theorem TP.ok.k (t : TP) (h : t.ok) : t.k + t.j ≤ 9007199254740 := by
  have h1 := h.pos; have h2 := h.small; have h3 := h.m; have h4 := h.j4; omega

section
variable {w0 w w' : World} {l l' : List (Nat × Obj)} {vs : List (Value × Bs)} {B : Nat}
/-- The blocks in another order. -/
theorem Hb.perm (h : Hb w0 l vs B w) (hp : l.Perm l') : Hb w0 l' vs B w :=
  ⟨h.base, h.bel, h.lo, h.hi, fun x hx => h.blocks x (hp.mem_iff.2 hx), (hp.map Prod.fst).nodup_iff.1 h.apart, fun x hx => (h.rows x hx).mono fun b hF => ⟨hF.1, fun y hy => hF.2 y (hp.mem_iff.2 hy)⟩⟩
/-- A channel's block is written again. -/
theorem Hb.setChan (h : Hb w0 l vs B w) (i c : Nat) {o : Obj} {cap s r : Nat} {buf : Array Value} {tm : Bool} (hi : l[i]? = some (c, o)) : Hb w0 (l.set i (c, .chan cap buf false s r tm)) vs B (w.setChan c cap buf false s r tm) := by
  have hc := lt_of_heap (h.at i c o hi)
  refine h.put i c hi ⟨?_, ?_, fun k hk => ?_, rfl, rfl, rfl⟩
  · simp [World.setChan, hc]
  · simp [World.setChan]
  · simp [World.setChan, Array.getElem?_setIfInBounds_ne (Ne.symm hk)]
/-- A block of bytes that is written no more is a row. -/
theorem Hb.toRow (h : Hb w0 l vs B w) {q n c : Nat} {m : Bs} {ty : TypeId} {fr : Nat × Nat} {l2 : List (Nat × Obj)} (hp : l.Perm ((q, .cells (m.map bv).toArray ty fr) :: l2)) (hn : n = m.length) (hc : c = n) (hm : m.length ≤ maxLen) : Hb w0 l2 ((.slice (some ⟨q, 0, none⟩) n c, m) :: vs) B w := by
  have h2 := h.perm hp
  have hq := h2.blocks _ (List.mem_cons_self)
  have hno := h2.apart
  rw [List.map_cons, List.nodup_cons] at hno
  subst hc; subst hn
  refine ⟨h2.base, h2.bel, h2.lo, h2.hi, fun x hx => h2.blocks x (List.mem_cons_of_mem _ hx), hno.2, fun x hx => ?_⟩
  rcases List.mem_cons.1 hx with rfl | hx
  · refine ⟨_, m.length, by rw [List.length_map], by rw [List.length_map]; exact Nat.le_refl _, hm, (fun e => by cases e), fun _ => ⟨q, 0, rfl, ⟨hq.2.1, fun y hy e => hno.1 (List.mem_map.2 ⟨y, hy, e⟩)⟩, fun j u hu => ?_⟩⟩
    rw [cell_of_row _ _ _ _ _ _ hq.2.2, Nat.zero_add, List.getElem?_toArray]; exact hu
  · exact (h2.rows x hx).mono fun b hF => ⟨hF.1, fun y hy => hF.2 y (List.mem_cons_of_mem _ hy)⟩
end
end Go.Proofs.YtmkpajhfgdffpaaDoor.Sh
