/- The walk of MacDerives. -/
import Derived.Test.YtlgaikknodoilaaDoorMaTells
import Derived.Test.YtlgaikknodoilaaDoorShHb
import Derived.Test.YtlgaikknodoilaaDoorShHp
import Derived.Test.YtlgaikknodoilaaDoorShAny2
namespace Go.Proofs.YtlgaikknodoilaaDoor.Sh
set_option linter.unusedVariables false
set_option linter.unusedSimpArgs false
open Go Go.RowKit

/-- The first k bytes that are no noughts. -/
def flt (l : Bs) (k : Nat) : Bs := (l.take k).filter (· != 0)
theorem flt_zero (l : Bs) : flt l 0 = [] := rfl
theorem flt_keep (l : Bs) (k : Nat) (h : k < l.length) (hz : l[k] ≠ 0) : flt l (k + 1) = flt l k ++ [l[k]] := by
  unfold flt
  rw [List.take_succ_eq_append_getElem h, List.filter_append]
  congr 1
  simp [hz]
theorem flt_skip (l : Bs) (k : Nat) (h : k < l.length) (hz : l[k] = 0) : flt l (k + 1) = flt l k := by
  unfold flt
  rw [List.take_succ_eq_append_getElem h, List.filter_append]
  simp [hz]
theorem flt_le (l : Bs) (k : Nat) : (flt l k).length ≤ k := by
  unfold flt
  exact Nat.le_trans (List.length_filter_le _ _) (by rw [List.length_take]; omega)
theorem flt_no (l : Bs) (k : Nat) : ∀ x ∈ flt l k, x ≠ 0 := by
  intro x hx
  unfold flt at hx
  have := (List.mem_filter.1 hx).2
  simpa using this
theorem be8_eq (n : Nat) : be 8 n = [UInt8.ofNat (n >>> 56), UInt8.ofNat (n >>> 48), UInt8.ofNat (n >>> 40), UInt8.ofNat (n >>> 32), UInt8.ofNat (n >>> 24), UInt8.ofNat (n >>> 16), UInt8.ofNat (n >>> 8), UInt8.ofNat (n >>> 0)] := rfl
theorem u8_ofNat_inj {a b : Nat} (h : UInt8.ofNat a = UInt8.ofNat b) : a % 256 = b % 256 := by
  have := congrArg UInt8.toNat h
  rwa [show (UInt8.ofNat a).toNat = a % 256 from UInt8.toNat_ofNat' .., show (UInt8.ofNat b).toNat = b % 256 from UInt8.toNat_ofNat' ..] at this
theorem be8_inj {a b : Nat} (ha : a ≤ 9007199254740991) (hb : b ≤ 9007199254740991) (h : be 8 a = be 8 b) : a = b := by
  rw [be8_eq, be8_eq] at h
  simp only [List.cons.injEq, and_true] at h
  obtain ⟨h0, h1, h2, h3, h4, h5, h6, h7⟩ := h
  have h0 := u8_ofNat_inj h0
  have h1 := u8_ofNat_inj h1
  have h2 := u8_ofNat_inj h2
  have h3 := u8_ofNat_inj h3
  have h4 := u8_ofNat_inj h4
  have h5 := u8_ofNat_inj h5
  have h6 := u8_ofNat_inj h6
  have h7 := u8_ofNat_inj h7
  simp only [Nat.shiftRight_eq_div_pow, Nat.reducePow] at h0 h1 h2 h3 h4 h5 h6 h7
  omega
theorem told_inj {s t : Bs} {a b : Nat} (ha : a ≤ 9007199254740991) (hb : b ≤ 9007199254740991) : told s a = told t b ↔ s = t ∧ a = b := by
  constructor
  · intro h
    have hl := congrArg List.length h
    rw [length_told, length_told] at hl
    unfold told at h
    rw [List.append_assoc, List.append_assoc] at h
    obtain ⟨h1, h2⟩ := List.append_inj h (by omega)
    exact ⟨h1, be8_inj ha hb (List.append_cancel_left h2)⟩
  · rintro ⟨rfl, rfl⟩; rfl
theorem told_eq (s : Bs) (n : Nat) : told s n = s ++ [0] ++ be 8 n := rfl
theorem arr_set2 {S : Array Value} (h : S.size = 2) (i : Nat) (hi : i < 2) (v : Value) (hv : v.cells = #[v]) : put S i v.cells = S.setIfInBounds i v := by
  have := put_one S.toList i v hv (by simp; omega)
  simp only [Array.toArray_toList] at this
  rw [this]
  apply Array.ext'
  simp

theorem info_str : (Tryd.prog.info? 9).map (·.size) = some 1 := by kernel_rfl
theorem one_str {s : ByteArray} : (Value.string s).cells.all (·.oneCell') = true := by simp [Value.cells, Value.oneCell']
theorem one_intv {z : Int} : (Value.int .i64 z).cells.all (·.oneCell') = true := by simp [Value.cells, Value.oneCell']
theorem le_A16l (l : Bs) (h : l.length = 16) : 0 + (Value.agg (A16 l)).cells.size ≤ z16.size := by
  show 0 + (A16 l).size ≤ 16
  rw [size_A16, h]; exact Nat.le_refl _
theorem le_A32l (l : Bs) (h : l.length = 32) : 0 + (Value.agg (A32 l)).cells.size ≤ z32.size := by
  show 0 + (A32 l).size ≤ 32
  rw [size_A32, h]; exact Nat.le_refl _
theorem put_z16 (l : Bs) (h : l.length = 16) : put z16 0 (Value.agg (A16 l)).cells = A16 l := put_whole _ _ ((size_A16 l).trans h).symm
theorem put_z32 (l : Bs) (h : l.length = 32) : put z32 0 (Value.agg (A32 l)).cells = A32 l := put_whole _ _ ((size_A32 l).trans h).symm
theorem mac_M (M : Bs) (kv bvv : Value) (key m : Bs) (hM : hmac key m = M) (w : World) (ht : Tab w) (hk : RD w.heap.size w kv key) (hm : RD w.heap.size w bvv m) (hlk : key.length ≤ 549755813888) (hlm : m.length ≤ 500000000000) :
    Calls Tryd.prog 10 #[kv, bvv] w fun e w' => e = .returned (.agg (A32 M)) ∧ Below w.heap.size w w' := hM ▸ mac_calls kv bvv key m w ht hk hm hlk hlm
theorem rd_arr {w : World} {q c : Nat} {l : Bs} {ty : TypeId} {fr : Nat × Nat} (hl : l.length = c) (n : Nat) (hn : n ≤ c) (hc : c ≤ maxLen) (hh : w.heap[q]? = some (.cells (l.map bv).toArray ty fr)) : RD w.heap.size w (.slice (some ⟨q, 0, none⟩) n c) (l.take n) := by
  refine ⟨some ⟨q, 0, none⟩, c, by rw [List.length_map, List.length_take, hl, Nat.min_eq_left hn], by rw [List.length_map, List.length_take, hl, Nat.min_eq_left hn]; exact hn, hc, (fun e => by cases e), fun _ => ⟨q, 0, rfl, lt_of_heap hh, fun j u hu => ?_⟩⟩
  rw [cell_of_row _ _ _ _ _ _ hh, Nat.zero_add]
  show (l.map bv).toArray[j]? = some u
  rw [List.getElem?_toArray]
  rw [List.map_take, List.getElem?_take] at hu
  split at hu
  · exact hu
  · cases hu
theorem set_facts {S S2 : Array Value} (h : S.size = 2) (i : Nat) (hi : i < 2) {v : Value} (e : S.setIfInBounds i v = S2) : S2[i]? = some v ∧ S2.size = 2 ∧ ∀ j, j ≠ i → S2[j]? = S[j]? := by
  subst e
  exact ⟨by simp [h, hi], by simp [h], fun j hj => Array.getElem?_setIfInBounds_ne (Ne.symm hj)⟩
/-- The three arrays: labels, numbers, what is told. -/
def DL (q4 q5 q7 : Nat) (S N T : Array Value) : List (Nat × Obj) := [(q4, .cells S 38 (0, 0)), (q5, .cells N 39 (0, 0)), (q7, .cells T 40 (0, 0))]
def DvD (S N T : Array Value) (vs : List (Value × Bs)) (j : Nat) : Prop := ∃ (s : ByteArray) (n : Nat) (v : Value), S[j]? = some (.string s) ∧ s.size ≤ 20 ∧ N[j]? = some (.int .i64 (n : Int)) ∧ n ≤ 9007199254740991 ∧ T[j]? = some v ∧ (∃ a l c, v = .slice a l c) ∧ (v, told s.data.toList n) ∈ vs
/-- While a number is told, byte by byte. -/
def DvT (w : World) (q4 q5 q7 : Nat) (S N T : Array Value) (vs : List (Value × Bs)) (B i : Nat) (M : Bs) (wr : World) : Prop :=
  ∃ (T2 : Array Value) (a : Option Addr) (c : Nat), T2[i]? = some (.slice a M.length c) ∧ T2.size = 2 ∧ (∀ j, j ≠ i → T2[j]? = T[j]?) ∧ Own B wr (.slice a M.length c) M ∧ Hb w (DL q4 q5 q7 S N T2) vs B wr
structure DvR (w : World) (q4 q5 q7 : Nat) (kv : Value) (key : Bs) (i : Nat) (S N T : Array Value) (vs : List (Value × Bs)) (wr : World) : Prop where
  hb : Hb w (DL q4 q5 q7 S N T) vs wr.heap.size wr
  s2 : S.size = 2
  n2 : N.size = 2
  t2 : T.size = 2
  key : (kv, key) ∈ vs
  strs : ∀ j, i ≤ j → j < 2 → ∃ s : ByteArray, S[j]? = some (.string s) ∧ s.size ≤ maxLen
  ints : ∀ j, i ≤ j → j < 2 → ∃ a : Int, N[j]? = some (.int .i64 a) ∧ Fits a
  done : ∀ j, j < i → DvD S N T vs j

set_option maxRecDepth 8000 in
set_option maxHeartbeats 4000000 in
theorem derives_calls (w : World) (ht : Tab w) (v : Value) (m0 : Bs) (hv : RD w.heap.size w v m0) (s0 s1 : ByteArray) (hs0 : s0.size ≤ maxLen) (hs1 : s1.size ≤ maxLen) (a0 a1 : Int) (f0 : Fits a0) (f1 : Fits a1) :
    Calls Tryd.prog 6 #[v, .agg #[.string s0, .string s1], .agg #[.int .i64 a0, .int .i64 a1]] w fun e w' => e = .returned (.bool true) ∧ Below w.heap.size w w' := by
  obtain ⟨a, c, rfl, hc, hcm⟩ := hv.form
  obtain ⟨k, hk, hk2, hmin0⟩ := min_to m0.length 100
  have hmin : (if (100 : Int) < (m0.length : Int) then (100 : Int) else (m0.length : Int)) = (k : Int) := hmin0
  obtain ⟨u, hu, hur⟩ := rd_to (a := a) (n := m0.length) (c := c) .i64 k hk hc
  have hm := hur _ _ _ hv
  have hlm : (m0.take k).length = k := by rw [List.length_take]; omega
  generalize m0.take k = m at hm hlm
  have hlk : m.length ≤ 100000 := by omega
  have HLK := Lib.hid hlk
  have HLK2 := Lib.hid (show m.length ≤ 549755813888 by omega)
  have HM := Lib.hid hm
  clear hmin0 hur hv hm hlm hlk
  have H0 := Lib.hid ((Hb.start ht).row0 HM.out)
  go_enter Tryd.func6, Tryd.ntmps6
  go_upto_region 3 with fail
  have hR0 : DvR w w.heap.size (w.heap.size + 1) (w.heap.size + 1 + 1) u m 0 #[.string s0, .string s1] #[.int .i64 a0, .int .i64 a1] #[.slice none 0 0, .slice none 0 0] [(u, m)]
      (((w.alloc (.cells #[.string s0, .string s1] 38)).alloc (.cells #[.int .i64 a0, .int .i64 a1] 39)).alloc (.cells #[.slice none 0 0, .slice none 0 0] 40)) := by
    have h3 := ((H0.out.fresh (.cells #[.string s0, .string s1] 38)).fresh (.cells #[.int .i64 a0, .int .i64 a1] 39)).fresh (.cells #[.slice none 0 0, .slice none 0 0] 40)
    simp only [World.size_alloc] at h3
    have h4 := h3.perm (List.reverse_perm _).symm
    refine ⟨by simp only [World.size_alloc]; exact h4, rfl, rfl, rfl, List.mem_cons_self, ?_, ?_, fun j hj => absurd hj (Nat.not_lt_zero _)⟩
    · intro j _ hj
      match j, hj with
      | 0, _ => exact ⟨s0, rfl, hs0⟩
      | 1, _ => exact ⟨s1, rfl, hs1⟩
    · intro j _ hj
      match j, hj with
      | 0, _ => exact ⟨a0, rfl, f0⟩
      | 1, _ => exact ⟨a1, rfl, f1⟩
  have HR0 := Lib.hid hR0
  clear hR0 hmin hu H0
  generalize World.alloc (World.alloc (World.alloc w (.cells #[.string s0, .string s1] 38)) (.cells #[.int .i64 a0, .int .i64 a1] 39)) (.cells #[.slice none 0 0, .slice none 0 0] 40) = w1 at *
  obtain ⟨q4, hq4⟩ : ∃ q, w.heap.size = q := ⟨_, rfl⟩
  rw [hq4] at HR0 ⊢
  obtain ⟨q5, hq5⟩ : ∃ q, q4 + 1 = q := ⟨_, rfl⟩
  rw [hq5] at HR0 ⊢
  obtain ⟨q7, hq7⟩ : ∃ q, q5 + 1 = q := ⟨_, rfl⟩
  rw [hq7] at HR0 ⊢
  clear hq7 hq5
  have HQ4 := Lib.hid hq4
  clear hq4
  go_wp2_with fail
  go_loopg [8] 2 (fun g iv wr => ∃ i : Nat, i + g = 2 ∧ iv = .int .i64 i ∧ ∃ S N T vs, DvR w q4 q5 q7 u m i S N T vs wr)
  case atStart => exact ⟨0, rfl, rfl, _, _, _, _, HR0.out⟩
  case round =>
    obtain ⟨i, hi, rfl, S, N, T, vs, hR⟩ := hrel
    have HR := Lib.hid hR
    clear hR HR0
    by_cases hi2 : i < 2
    · obtain ⟨s, hSi, hss⟩ := HR.out.strs i (Nat.le_refl _) hi2
      obtain ⟨a, hNi, fa⟩ := HR.out.ints i (Nat.le_refl _) hi2
      have FA := Lib.hid fa
      have HSS := Lib.hid hss
      have HSi := Lib.hid hSi
      have HNi := Lib.hid hNi
      obtain ⟨B, hB⟩ : ∃ B, wr.heap.size = B := ⟨_, rfl⟩
      have HBh : Hid (Hb w (DL q4 q5 q7 S N T) vs B wr) := Lib.hid (by rw [← hB]; exact HR.out.hb)
      have hP0 : PadAt B wr (.slice (some ⟨wr.heap.size, 0, none⟩) 0 0) (flt s.data.toList 0) (wr.alloc (.cells #[] 5)) := by
        refine ⟨?_, ?_, by rw [hB]; exact Nat.le_refl _⟩
        · rw [← hB]; exact own_empty wr
        · rw [← hB]; exact (Below.refl _ _).alloc (Nat.le_refl _) _
      have HP0 := Lib.hid hP0
      have hsl : s.data.toList.length = s.size := by rw [Array.length_toList]; rfl
      obtain ⟨go, rfl⟩ : ∃ go, go = gk := ⟨_, rfl⟩
      obtain ⟨wo, rfl⟩ : ∃ wo : World, wo = wr := ⟨_, rfl⟩
      have hi2I : (i : Int) < 2 := by omega
      have HI2 := Lib.hid hi2
      have HBsz := Lib.hid hB
      clear hSi hNi fa hss hP0 hB
      go_wp2_with fail
      clear hi2I
      go_loopg [9, 10] 20 (fun g pv kv wr => ∃ k : Nat, k + g = 20 ∧ k ≤ s.size ∧ kv = .int .i64 k ∧ PadAt B wo pv (flt s.data.toList k) wr)
      case atStart => exact ⟨0, rfl, Nat.zero_le _, rfl, HP0.out⟩
      case round =>
        obtain ⟨k, hk, hks, rfl, hP⟩ := hrel
        have HP := Lib.hid hP
        clear hP HP0
        have HW := Lib.hid (HBh.out.call HP.out.below)
        have hc4 : wr.cell? ⟨q4, i, none⟩ = some (.string s) := by rw [cell_of_row _ _ _ _ _ _ (HW.out.at 0 q4 _ rfl)]; exact HSi.out
        have hi2I : (i : Int) < 2 := by have := HI2.out; omega
        have hi0I : (0 : Int) ≤ (i : Int) := by omega
        by_cases hgo : k < s.size ∧ k < 20
        · obtain ⟨hks1, hk20⟩ := hgo
          have hk20I : (k : Int) < 20 := by omega
          have hle := flt_le s.data.toList k
          have hkl : k < s.data.toList.length := by rw [hsl]; exact hks1
          have ey : s.data.toList[k] = s[k] := rfl
          have hln : (flt s.data.toList k).length + 1 ≤ 1000000 := by omega
          have HLN := Lib.hid hln
          by_cases hz : s[k] = 0
          · have HFS := Lib.hid (flt_skip s.data.toList k hkl (ey.trans hz))
            have hzt : (((s[k].toNat : Nat) : Int) != 0) = false := by rw [hz]; rfl
            clear hle hln hz ey
            go_wp2_with fail
            go_roundg (gk - 1)
            case measure => omega
            case rel => exact ⟨k + 1, by omega, by omega, by go_num, by rw [HFS.out]; exact HP.out⟩
          · have HFS := Lib.hid (flt_keep s.data.toList k hkl (by rw [ey]; exact hz))
            have hzt : (((s[k].toNat : Nat) : Int) != 0) = true := by
              rw [bne_iff_ne]; intro e
              apply hz
              apply UInt8.toNat_inj.1
              have : s[k].toNat = 0 := by omega
              rw [this]; rfl
            clear hle hln hz ey
            go_wp2_with (at_builtin; refine wpList_append_mine rfl (.tmp 44) (.tmp 50) 22 rfl elem_u8 rfl rfl (HP.out.own.alloc _) (HP.out.base_le) (rv_byte wr s[k]) (one_bytes [s[k]]) (small_len HLN.out) (small_bytes HLN.out) ?_; intro v' w' hg ho; replace ho := Lib.hid ho)
            have HNx := Lib.hid (HP.out.push hg ho.out)
            clear hg ho HP
            go_wp2_with fail
            go_roundg (gk - 1)
            case measure => omega
            case rel => exact ⟨k + 1, by omega, by omega, by go_num, by rw [HFS.out]; exact HNx.out⟩
        · have hll : (flt s.data.toList k).length ≤ 20 := by have := flt_le s.data.toList k; omega
          have hnz := flt_no s.data.toList k
          generalize flt s.data.toList k = L at *
          have HLL := Lib.hid hll
          have HNZ := Lib.hid hnz
          have hx0 := Int.emod_nonneg a (b := (9007199254740992 : Int)) (by omega)
          have hx1 := Int.emod_lt_of_pos a (b := (9007199254740992 : Int)) (by omega)
          obtain ⟨b, hb⟩ : ∃ b : Nat, a % (9007199254740992 : Int) = b := ⟨(a % (9007199254740992 : Int)).toNat, by omega⟩
          rw [hb] at hx0 hx1
          have hb53 : b ≤ 9007199254740991 := by omega
          have HBN := Lib.hid hb
          have HB53 := Lib.hid hb53
          obtain ⟨la, lc, rfl⟩ := own_form HP.out.own
          have hN5 : wr.cell? ⟨q5, i, none⟩ = some (.int .i64 a) := by rw [cell_of_row _ _ _ _ _ _ (HW.out.at 1 q5 _ rfl)]; exact HNi.out
          clear hb hll hnz
          have hxx : (k : Int) < (s.size : Int) ∨ ¬ (k : Int) < (s.size : Int) := Classical.em _
          rcases hxx with hxx | hxx
          · have hk20 : ¬ (k : Int) < 20 := by omega
            go_upto_region 12 with fail
            have hD1 := HW.out
            have HD1 := Lib.hid hD1
            obtain ⟨str, hstr⟩ : ∃ str : ByteArray, str = ⟨L.toArray⟩ := ⟨_, rfl⟩
            have hstl : str.data.toList = L := by rw [hstr]
            have hsts : str.size = L.length := by rw [← hstl, Array.length_toList]; rfl
            have HSTL := Lib.hid hstl
            have HSTS := Lib.hid hsts
            have hconv := run_bytes_str (P := Tryd.prog) Tryd.underlying9 Tryd.underlying22 Tryd.underlying5 (RD.drewN (show RD wr.heap.size wr _ L from RV.of_owns HP.out.own) 1)
            rw [← hstr] at hconv
            have HS2 := Lib.hid HR.out.s2
            have HN2 := Lib.hid HR.out.n2
            have HT2 := Lib.hid HR.out.t2
            have hi2 := HI2.out
            have HSZ4 := Lib.hid (show i + (Value.string str).cells.size ≤ S.size by rw [HR.out.s2]; show i + 1 ≤ 2; omega)
            have HSZ5 := Lib.hid (show i + (Value.int .i64 (b : Int)).cells.size ≤ N.size by rw [HR.out.n2]; show i + 1 ≤ 2; omega)
            have f5 : ∀ y : In (fun w' : World => w'.heap[q5]? = some (.cells N 39 (0, 0)) ∧ (convert 22 9 (.slice la L.length lc)).run Tryd.prog w' = .ok (.string str) w'), y.val.cell? ⟨q5, i, none⟩ = some (.int .i64 a) := fun y => by rw [cell_of_row _ _ _ _ _ _ y.prop.1]; exact HNi.out
            have fcv : ∀ y : In (fun w' : World => w'.heap[q5]? = some (.cells N 39 (0, 0)) ∧ (convert 22 9 (.slice la L.length lc)).run Tryd.prog w' = .ok (.string str) w'), (convert 22 9 (.slice la L.length lc)).run Tryd.prog y.val = .ok (.string str) y.val := fun y => y.prop.2
            have ne : Nonempty (In (fun w' : World => w'.heap[q5]? = some (.cells N 39 (0, 0)) ∧ (convert 22 9 (.slice la L.length lc)).run Tryd.prog w' = .ok (.string str) w')) := ⟨⟨wr.drew, HD1.out.drew.at 1 q5 _ rfl, hconv⟩⟩
            have HD1 := Lib.hid hD1
            clear hstr hstl hsts hD1 hc4 hN5 hks hsl hxx
            refine wp_region_lex (fun w' : World => w'.heap[q5]? = some (.cells N 39 (0, 0)) ∧ (convert 22 9 (.slice la L.length lc)).run Tryd.prog w' = .ok (.string str) w') [7, 9, 11] [9, 11] [3, 6] (by kernel_rfl) (by kernel_rfl) (fun _ => ⟨HD1.out.drew.at 1 q5 _ rfl, hconv⟩) ?_
            simp only [List.zipIdx_cons, List.zipIdx_nil, Nat.zero_add, Nat.reduceAdd]
            refine lex_blind 3 (by kernel_rfl) ?_
            simp only [List.take_succ_cons, List.take_zero, List.drop_succ_cons, List.drop_zero, List.map_cons, List.map_nil, Act.put, List.setIfInBounds_toArray, List.set_cons_succ, List.set_cons_zero]
            repeat (go_big_quiet_step (fail))
            refine wpQuiet_nil ?_
            refine lex_reads 1 (by kernel_rfl) (by kernel_rfl) ?_
            simp only [List.take_succ_cons, List.take_zero, List.drop_succ_cons, List.drop_zero, List.map_cons, List.map_nil, Act.put, List.setIfInBounds_toArray, List.set_cons_succ, List.set_cons_zero]
            repeat (go_big_quiet_step (fail))
            refine wpQuiet_nil ?_
            refine lex_blind 2 (by kernel_rfl) ?_
            simp only [List.take_succ_cons, List.take_zero, List.drop_succ_cons, List.drop_zero, List.map_cons, List.map_nil, Act.put, List.setIfInBounds_toArray, List.set_cons_succ, List.set_cons_zero]
            repeat (go_big_quiet_step (fail))
            refine wpQuiet_nil ?_
            refine lex_reads 1 (by kernel_rfl) (by kernel_rfl) ?_
            simp only [List.take_succ_cons, List.take_zero, List.drop_succ_cons, List.drop_zero, List.map_cons, List.map_nil, Act.put, List.setIfInBounds_toArray, List.set_cons_succ, List.set_cons_zero]
            repeat (go_big_quiet_step (fail))
            refine wpQuiet_nil ?_
            refine lex_act rfl rfl (fun K hK => ?_)
            go_simp
            refine (bring_calls a (9007199254740992 : Int) (by omega) (by omega) FA.out.1 FA.out.2 _).mono ?_
            rintro e x1 ⟨rfl, rfl⟩
            rw [HBN.out]
            refine hK _ _ (ActLeft.keep rfl fun h => h) ?_
            clear hK K
            refine lex_blind 1 (by kernel_rfl) ?_
            simp only [List.take_succ_cons, List.take_zero, List.drop_succ_cons, List.drop_zero, List.map_cons, List.map_nil, Act.put, List.setIfInBounds_toArray, List.set_cons_succ, List.set_cons_zero]
            repeat (go_big_quiet_step (fail))
            refine wpQuiet_nil ?_
            refine lex_act rfl rfl (fun K hK => ?_)
            refine wp_store_upd 9 (.tmp 60) (.tmp 55) rfl q4 i (.string str) rfl rfl _ _ (HD1.out.drew.at 0 q4 _ rfl) info_str HSZ4.out one_str rfl ?_
            intro w5 hu5
            rw [arr_set2 HS2.out i hi2 _ rfl] at hu5
            have HD2 := Lib.hid (HD1.out.drew.put 0 q4 rfl hu5)
            refine hK _ _ (ActLeft.last rfl rfl) ?_
            clear hK K
            refine lex_blind 1 (by kernel_rfl) ?_
            simp only [List.take_succ_cons, List.take_zero, List.drop_succ_cons, List.drop_zero, List.map_cons, List.map_nil, Act.put, List.setIfInBounds_toArray, List.set_cons_succ, List.set_cons_zero]
            repeat (go_big_quiet_step (fail))
            refine wpQuiet_nil ?_
            refine lex_act rfl rfl (fun K hK => ?_)
            refine wp_store_upd 3 (.tmp 61) (.tmp 59) rfl q5 i (.int .i64 (b : Int)) rfl rfl _ _ (HD2.out.at 1 q5 _ rfl) info_int HSZ5.out one_intv rfl ?_
            intro w6 hu6
            rw [arr_set2 HN2.out i hi2 _ rfl] at hu6
            have HD3 := Lib.hid (HD2.out.put 1 q5 rfl hu6)
            refine hK _ _ (ActLeft.last rfl rfl) ?_
            clear hK K
            refine lex_nil ?_
            have hq4B : q4 < B := HW.out.ltB 0 q4 _ rfl
            have hq5B : q5 < B := HW.out.ltB 1 q5 _ rfl
            have hq7B : q7 < B := HW.out.ltB 2 q7 _ rfl
            have HQ7B := Lib.hid hq7B
            obtain ⟨S2, hS2⟩ : ∃ S2, S.setIfInBounds i (.string str) = S2 := ⟨_, rfl⟩
            obtain ⟨N2, hN2⟩ : ∃ N2, N.setIfInBounds i (.int .i64 (b : Int)) = N2 := ⟨_, rfl⟩
            have HSI := Lib.hid (set_facts HS2.out i hi2 hS2)
            have HNI := Lib.hid (set_facts HN2.out i hi2 hN2)
            have HD4 : Hid (Hb w (DL q4 q5 q7 S2 N2 T) vs B w6) := Lib.hid (by rw [← hS2, ← hN2]; exact HD3.out)
            have HO6 : Hid (PadAt B w6 (.slice la L.length lc) L w6) := Lib.hid ⟨own_past HP.out.own fun bb h1 h2 => ((hu6.other bb (by omega)).trans (hu5.other bb (by omega))), Below.refl _ _, HD4.out.hi⟩
            have hl13 := HLL.out
            have HL13 := Lib.hid (show L.length + 1 ≤ 1000000 by omega)
            clear hS2 hN2 hu5 hu6 hx0 hx1 f5 fcv ne hq4B hq5B hq7B hb53 HD1 HD2 HD3 HP HW hl13 hconv
            have hi2I : (i : Int) < 2 := by omega
            go_upto_region 14 with (first
              | (refine wpList_store_upd rfl 22 (.tmp 66) (.tmp 65) rfl q7 i (.slice ta tl tc) rfl rfl _ _ (HD5.out.at 2 q7 _ rfl) info_sl (by rw [HT2.out]; show i + 1 ≤ 2; omega) (one_sl _ _ _) rfl ?_; intro w8 hu8; rw [arr_set2 HT2.out i hi2 _ rfl] at hu8; replace hu8 := Lib.hid hu8)
              | (at_builtin; refine wpList_append_mine rfl (.tmp 63) (.tmp 64) 22 rfl elem_u8 rfl rfl (HO6.out.own.alloc _) (HO6.out.base_le) (rv_byte w6 0) (one_bytes [0]) (small_len HL13.out) (small_bytes HL13.out) ?_; intro v7 w7 hg7 ho7; have HO7 := Lib.hid (HO6.out.push hg7 ho7); have HD5 := Lib.hid (HD4.out.call HO7.out.below); have hf7 := own_form HO7.out.own; obtain ⟨ta, tc, rfl⟩ := hf7; clear hg7 ho7; generalize (L ++ [0]).length = tl at *))
            obtain ⟨T3, hT3⟩ : ∃ T3, T.setIfInBounds i (.slice ta tl tc) = T3 := ⟨_, rfl⟩
            rw [hT3] at hu8
            have tf := set_facts HT2.out i hi2 hT3
            have hD8 := HD5.out.put 2 q7 rfl hu8.out
            have hO8 := own_past HO7.out.own fun bb h1 h2 => hu8.out.other bb (by have := HQ7B.out; omega)
            have hT0 : DvT w q4 q5 q7 S2 N2 T vs B i (L ++ [0] ++ (be 8 b).take (8 - 8)) w8 := by
              obtain ⟨a9, c9, e9⟩ := own_form hO8
              rw [Nat.sub_self, List.take_zero, List.append_nil]
              refine ⟨T3, a9, c9, by rw [← e9]; exact tf.1, tf.2.1, tf.2.2, by rw [← e9]; exact hO8, hD8⟩
            have HT0 := Lib.hid hT0
            clear hT3 tf hD8 hO8 hT0 HD4 HD5 HO6 HO7 hu8
            obtain ⟨go2, rfl⟩ : ∃ go2, go2 = gk := ⟨_, rfl⟩
            obtain ⟨w9, rfl⟩ : ∃ w9 : World, w9 = wr := ⟨_, rfl⟩
            go_wp2_with fail
            go_loopg [11] 8 (fun g iv wr => g ≤ 8 ∧ iv = .int .i64 ((g : Int) - 1) ∧ DvT w q4 q5 q7 S2 N2 T vs B i (L ++ [0] ++ (be 8 b).take (8 - g)) wr)
            case atStart => exact ⟨Nat.le_refl _, rfl, HT0.out⟩
            case round =>
              obtain ⟨hg8, rfl, hP⟩ := hrel
              clear HT0
              rcases gk with _ | kk
              · obtain ⟨T4, ma, mc, hTi, hTs, hTo, hO, hD⟩ := hP
                have hfull : L ++ [0] ++ (be 8 b).take (8 - 0) = told L b := by rw [told_eq, List.take_of_length_le (by rw [length_be]; exact Nat.le_refl 8)]
                rw [hfull] at hTi hO
                have HTI := Lib.hid hTi
                have HTS := Lib.hid hTs
                have HTO := Lib.hid hTo
                have HD := Lib.hid (hD.own hO)
                have HKM : (u, m) ∈ (Value.slice ma (told L b).length mc, told L b) :: vs := List.mem_cons_of_mem _ HR.out.key
                have HKM := Lib.hid HKM
                have HTL := Lib.hid (show (told L b).length ≤ 500000000000 by rw [length_told]; have := HLL.out; omega)
                have f4 : ∀ y : In (fun w' : World => w'.heap[q4]? = some (.cells S2 38 (0, 0)) ∧ w'.heap[q5]? = some (.cells N2 39 (0, 0))), y.val.cell? ⟨q4, i, none⟩ = some (.string str) := fun y => by rw [cell_of_row _ _ _ _ _ _ y.prop.1]; exact HSI.out.1
                have f5 : ∀ y : In (fun w' : World => w'.heap[q4]? = some (.cells S2 38 (0, 0)) ∧ w'.heap[q5]? = some (.cells N2 39 (0, 0))), y.val.cell? ⟨q5, i, none⟩ = some (.int .i64 (b : Int)) := fun y => by rw [cell_of_row _ _ _ _ _ _ y.prop.2]; exact HNI.out.1
                have ne : Nonempty (In (fun w' : World => w'.heap[q4]? = some (.cells S2 38 (0, 0)) ∧ w'.heap[q5]? = some (.cells N2 39 (0, 0)))) := ⟨⟨wr.drew, HD.out.drew.at 0 q4 _ rfl, HD.out.drew.at 1 q5 _ rfl⟩⟩
                have hsm : str.size ≤ 100000 := by rw [HSTS.out]; have := HLL.out; omega
                have HSM := Lib.hid hsm
                have hdrv : drv m str (b : Int) = ((hmac m (told L b)).take 16, 0) := by
                  rw [drv_ok m str b (by rw [HSTL.out]; exact HNZ.out) HB53.out, HSTL.out]
                obtain ⟨MM, hMM⟩ : ∃ MM, hmac m (told L b) = MM := ⟨_, rfl⟩
                rw [hMM] at hdrv
                have HMM := Lib.hid hMM
                have HML := Lib.hid (show MM.length = 32 by rw [← hMM]; exact length_hmac _ _)
                obtain ⟨DD, hDD⟩ : ∃ DD, MM.take 16 = DD := ⟨_, rfl⟩
                rw [hDD] at hdrv
                have HDV := Lib.hid hdrv
                have HDD := Lib.hid hDD
                have HDL := Lib.hid (show DD.length = 16 by rw [← hDD, List.length_take, HML.out]; rfl)
                clear hTi hTs hTo hO hD hfull hsm hdrv hMM hDD
                go_upto_region 18 with fail
                refine wp_region_float_at 7 11 (fun w' : World => w'.heap[q4]? = some (.cells S2 38 (0, 0)) ∧ w'.heap[q5]? = some (.cells N2 39 (0, 0))) [7, 11, 12] [] [3, 6] (fun q w' => Hb w ((q, .cells (A16 DD) 41 (0, 0)) :: DL q4 q5 q7 S2 N2 T4) ((Value.slice ma (told L b).length mc, told L b) :: vs) w'.heap.size w') (by kernel_rfl) (by kernel_rfl) (by decide) (fun _ => ⟨HD.out.drew.at 0 q4 _ rfl, HD.out.drew.at 1 q5 _ rfl⟩) ?_
                apply Exists.intro
                refine ⟨?_, ?_, ?_⟩
                · simp only [List.zipIdx_cons, List.zipIdx_nil, Nat.zero_add, Nat.reduceAdd]
                  refine lex_blind 3 (by kernel_rfl) ?_
                  simp only [List.take_succ_cons, List.take_zero, List.drop_succ_cons, List.drop_zero, List.map_cons, List.map_nil, Act.put, List.setIfInBounds_toArray, List.set_cons_succ, List.set_cons_zero]
                  repeat (go_big_quiet_step (fail))
                  refine wpQuiet_nil ?_
                  refine lex_reads 1 (by kernel_rfl) (by kernel_rfl) ?_
                  simp only [List.take_succ_cons, List.take_zero, List.drop_succ_cons, List.drop_zero, List.map_cons, List.map_nil, Act.put, List.setIfInBounds_toArray, List.set_cons_succ, List.set_cons_zero]
                  repeat (go_big_quiet_step (fail))
                  refine wpQuiet_nil ?_
                  refine lex_blind 2 (by kernel_rfl) ?_
                  simp only [List.take_succ_cons, List.take_zero, List.drop_succ_cons, List.drop_zero, List.map_cons, List.map_nil, Act.put, List.setIfInBounds_toArray, List.set_cons_succ, List.set_cons_zero]
                  repeat (go_big_quiet_step (fail))
                  refine wpQuiet_nil ?_
                  refine lex_reads 1 (by kernel_rfl) (by kernel_rfl) ?_
                  simp only [List.take_succ_cons, List.take_zero, List.drop_succ_cons, List.drop_zero, List.map_cons, List.map_nil, Act.put, List.setIfInBounds_toArray, List.set_cons_succ, List.set_cons_zero]
                  repeat (go_big_quiet_step (fail))
                  refine wpQuiet_nil ?_
                  refine lex_act rfl rfl (fun K hK => ?_)
                  go_simp
                  refine (derive_calls u m str (b : Int) HSM.out _ HD.out.drew.tab (HD.out.drew.rdm HKM.out) HLK.out).mono ?_
                  rintro e w8 ⟨rfl, hb8⟩
                  rw [HDV.out]
                  have HD2 := Lib.hid (HD.out.drew.calls hb8)
                  clear hb8
                  refine hK _ _ (ActLeft.keep rfl fun h => ⟨HD2.out.at 0 q4 _ rfl, HD2.out.at 1 q5 _ rfl⟩) ?_
                  clear hK K
                  refine lex_blind 3 (by kernel_rfl) ?_
                  simp only [List.take_succ_cons, List.take_zero, List.drop_succ_cons, List.drop_zero, List.map_cons, List.map_nil, Act.put, List.setIfInBounds_toArray, List.set_cons_succ, List.set_cons_zero]
                  repeat (go_big_quiet_step (fail))
                  refine wpQuiet_nil ?_
                  refine lex_act rfl rfl (fun K hK => ?_)
                  go_simp
                  refine hK _ _ (ActLeft.keep rfl fun h => ⟨heap_old h.1 _, heap_old h.2 _⟩) ?_
                  clear hK K
                  refine lex_act rfl rfl (fun K hK => ?_)
                  refine wp_store_upd 41 (.tmp 12) (.tmp 94) rfl w8.heap.size 0 (.agg (A16 DD)) rfl rfl _ z16 (heap_new w8 _) (info_A16 DD HDL.out) (le_A16l DD HDL.out) (one_A16 _) rfl ?_
                  intro w9 hu9
                  rw [put_z16 DD HDL.out] at hu9
                  have HD3 := Lib.hid (HD2.out.newUpd hu9)
                  clear hu9
                  refine hK _ _ (ActLeft.keep rfl fun h => ⟨HD3.out.at 1 q4 _ rfl, HD3.out.at 2 q5 _ rfl⟩) ?_
                  clear hK K
                  refine lex_blind 1 (by kernel_rfl) ?_
                  simp only [List.take_succ_cons, List.take_zero, List.drop_succ_cons, List.drop_zero, List.map_cons, List.map_nil, Act.put, List.setIfInBounds_toArray, List.set_cons_succ, List.set_cons_zero]
                  repeat (go_big_quiet_step (fail))
                  refine wpQuiet_nil ?_
                  obtain ⟨q12, hq12⟩ : ∃ q, w8.heap.size = q := ⟨_, rfl⟩
                  rw [hq12] at HD3 ⊢
                  exact lex_nil ⟨rfl, q12, rfl, HD3.out⟩
                · simp only [List.zipIdx_cons, List.zipIdx_nil, Nat.zero_add, Nat.reduceAdd, List.filter_cons, List.filter_nil, bne, Nat.reduceBEq, Bool.not_true, Bool.not_false, if_true, Bool.false_eq_true, if_false, List.getElem_cons_succ, List.getElem_cons_zero]
                  refine lex_act rfl rfl (fun K hK => ?_)
                  go_simp
                  refine hK _ _ (ActLeft.keep rfl fun h => ⟨heap_old h.1 _, heap_old h.2 _⟩) ?_
                  clear hK K
                  have HDA := Lib.hid (HD.out.drew.fresh (.cells z16 41))
                  refine lex_blind 3 (by kernel_rfl) ?_
                  simp only [List.take_succ_cons, List.take_zero, List.drop_succ_cons, List.drop_zero, List.map_cons, List.map_nil, Act.put, List.setIfInBounds_toArray, List.set_cons_succ, List.set_cons_zero]
                  repeat (go_big_quiet_step (fail))
                  refine wpQuiet_nil ?_
                  refine lex_reads 1 (by kernel_rfl) (by kernel_rfl) ?_
                  simp only [List.take_succ_cons, List.take_zero, List.drop_succ_cons, List.drop_zero, List.map_cons, List.map_nil, Act.put, List.setIfInBounds_toArray, List.set_cons_succ, List.set_cons_zero]
                  repeat (go_big_quiet_step (fail))
                  refine wpQuiet_nil ?_
                  refine lex_blind 2 (by kernel_rfl) ?_
                  simp only [List.take_succ_cons, List.take_zero, List.drop_succ_cons, List.drop_zero, List.map_cons, List.map_nil, Act.put, List.setIfInBounds_toArray, List.set_cons_succ, List.set_cons_zero]
                  repeat (go_big_quiet_step (fail))
                  refine wpQuiet_nil ?_
                  refine lex_reads 1 (by kernel_rfl) (by kernel_rfl) ?_
                  simp only [List.take_succ_cons, List.take_zero, List.drop_succ_cons, List.drop_zero, List.map_cons, List.map_nil, Act.put, List.setIfInBounds_toArray, List.set_cons_succ, List.set_cons_zero]
                  repeat (go_big_quiet_step (fail))
                  refine wpQuiet_nil ?_
                  refine lex_act rfl rfl (fun K hK => ?_)
                  go_simp
                  refine (derive_calls u m str (b : Int) HSM.out _ HDA.out.tab (HDA.out.rdm HKM.out) HLK.out).mono ?_
                  rintro e w8 ⟨rfl, hb8⟩
                  rw [HDV.out]
                  have HD2 := Lib.hid (HDA.out.calls hb8)
                  clear hb8
                  refine hK _ _ (ActLeft.keep rfl fun h => ⟨HD2.out.at 1 q4 _ rfl, HD2.out.at 2 q5 _ rfl⟩) ?_
                  clear hK K
                  refine lex_blind 3 (by kernel_rfl) ?_
                  simp only [List.take_succ_cons, List.take_zero, List.drop_succ_cons, List.drop_zero, List.map_cons, List.map_nil, Act.put, List.setIfInBounds_toArray, List.set_cons_succ, List.set_cons_zero]
                  repeat (go_big_quiet_step (fail))
                  refine wpQuiet_nil ?_
                  refine lex_act rfl rfl (fun K hK => ?_)
                  refine wp_store_upd 41 (.tmp 12) (.tmp 94) rfl wr.heap.size 0 (.agg (A16 DD)) rfl rfl _ z16 (HD2.out.at 0 _ _ rfl) (info_A16 DD HDL.out) (le_A16l DD HDL.out) (one_A16 _) rfl ?_
                  intro w9 hu9
                  rw [put_z16 DD HDL.out] at hu9
                  have HD3 := Lib.hid ((HD2.out.put 0 _ rfl hu9).top)
                  clear hu9
                  refine hK _ _ (ActLeft.keep rfl fun h => ⟨HD3.out.at 1 q4 _ rfl, HD3.out.at 2 q5 _ rfl⟩) ?_
                  clear hK K
                  refine lex_blind 1 (by kernel_rfl) ?_
                  simp only [List.take_succ_cons, List.take_zero, List.drop_succ_cons, List.drop_zero, List.map_cons, List.map_nil, Act.put, List.setIfInBounds_toArray, List.set_cons_succ, List.set_cons_zero]
                  repeat (go_big_quiet_step (fail))
                  refine wpQuiet_nil ?_
                  obtain ⟨q12, hq12⟩ : ∃ q, wr.drew.heap.size = q := ⟨_, rfl⟩
                  rw [hq12] at HD3
                  change wr.heap.size = q12 at hq12
                  (try rw [hq12])
                  exact lex_nil ⟨rfl, q12, rfl, HD3.out⟩
                rintro q12 w9 hd3
                have HD3 := Lib.hid hd3
                clear hd3
                have hc7 : w9.cell? ⟨q7, i, none⟩ = some (.slice ma (told L b).length mc) := by rw [cell_of_row _ _ _ _ _ _ (HD3.out.at 3 q7 _ rfl)]; exact HTI.out
                clear f4 f5 ne HD
                go_upto_region 20 with (first
                  | (refine wpList_store_upd rfl 24 (.tmp 14) (.tmp 100) rfl w10.heap.size 0 (.agg (A32 MM)) rfl rfl _ z32 (heap_new w10 _) (info_A32l MM HML.out) (le_A32l MM HML.out) (one_A32 _) rfl ?_; intro w11 hu11; rw [put_z32 MM HML.out] at hu11; have HD5 := Lib.hid (HD4.out.newUpd hu11); clear hu11)
                  | (go_at_call 10; refine (mac_M MM u _ m (told L b) HMM.out _ HD3.out.tab (HD3.out.rdm HKM.out) (HD3.out.rd 0 _ _ rfl) HLK2.out HTL.out).mono ?_; rintro e w10 ⟨rfl, hb10⟩; have HD4 := Lib.hid (HD3.out.calls hb10); clear hb10))
                obtain ⟨q14, hq14⟩ : ∃ q, w10.heap.size = q := ⟨_, rfl⟩
                rw [hq14] at HD5 ⊢
                clear HD3 HD4 hq14 hc7
                have hdm : (DD.take 16 == MM.take 16) = true := by rw [HDD.out, List.take_of_length_le (Nat.le_of_eq HDL.out)]; simp
                have HDM := Lib.hid hdm
                clear hdm
                refine wp_region_lex (Every) [5] [] [] (by kernel_rfl) (by kernel_rfl) (fun _ => trivial) ?_
                simp only [List.zipIdx_cons, List.zipIdx_nil, Nat.zero_add, Nat.reduceAdd]
                refine lex_blind 5 (by kernel_rfl) ?_
                simp only [List.take_succ_cons, List.take_zero, List.drop_succ_cons, List.drop_zero, List.map_cons, List.map_nil, Act.put, List.setIfInBounds_toArray, List.set_cons_succ, List.set_cons_zero]
                repeat (go_big_quiet_step (fail))
                refine wpQuiet_nil ?_
                refine lex_act rfl rfl (fun K hK => ?_)
                go_simp
                refine (eqBytes_calls _ _ (DD.take 16) (MM.take 16) _ (rd_arr HDL.out 16 (Nat.le_refl _) (by decide) (HD5.out.drew.at 1 q12 _ rfl)) (rd_arr HML.out 16 (by decide) (by decide) (HD5.out.drew.at 0 q14 _ rfl))).mono ?_
                rintro e w12 ⟨rfl, rfl⟩
                rw [HDM.out]
                refine hK _ _ (ActLeft.keep rfl fun h => h) ?_
                clear hK K
                refine lex_blind 2 (by kernel_rfl) ?_
                simp only [List.take_succ_cons, List.take_zero, List.drop_succ_cons, List.drop_zero, List.map_cons, List.map_nil, Act.put, List.setIfInBounds_toArray, List.set_cons_succ, List.set_cons_zero]
                repeat (go_big_quiet_step (fail))
                refine wpQuiet_nil ?_
                refine lex_nil ?_
                have HD6 : Hid (DvR w q4 q5 q7 u m (i + 1) S2 N2 T4 ((Value.slice ma (told L b).length mc, told L b) :: vs) w11.drew) := Lib.hid (by
                  refine ⟨(HD5.out.drew.tail.tail).top, HSI.out.2.1, HNI.out.2.1, HTS.out, HKM.out, fun j h1 h2 => ?_, fun j h1 h2 => ?_, fun j h1 => ?_⟩
                  · rw [HSI.out.2.2 j (by omega)]; exact HR.out.strs j (by omega) h2
                  · rw [HNI.out.2.2 j (by omega)]; exact HR.out.ints j (by omega) h2
                  · by_cases hji : j = i
                    · subst hji
                      exact ⟨str, b, _, HSI.out.1, by rw [HSTS.out]; exact HLL.out, HNI.out.1, HB53.out, HTI.out, ⟨_, _, _, rfl⟩, by rw [HSTL.out]; exact List.mem_cons_self⟩
                    · obtain ⟨s', n', v', a1, a2, a3, a4, a5, a6, a7⟩ := HR.out.done j (by omega)
                      exact ⟨s', n', v', (HSI.out.2.2 j hji).trans a1, a2, (HNI.out.2.2 j hji).trans a3, a4, (HTO.out j hji).trans a5, a6, List.mem_cons_of_mem _ a7⟩)
                clear HD5 HR
                go_wp2_with fail
                go_roundg (go - 1)
                case measure => omega
                case rel => exact ⟨i + 1, by omega, by go_num, _, _, _, _, HD6.out⟩
              · have e1 : ((kk + 1 : Nat) : Int) - 1 = (kk : Int) := by omega
                have hk0 : (0 : Int) ≤ (kk : Int) := by omega
                have hk7 : (kk : Int) ≤ 7 := by omega
                have et : (be 8 b).take (8 - kk) = (be 8 b).take (8 - (kk + 1)) ++ [UInt8.ofNat (b >>> (8 * kk))] := by
                  have := be_take 8 b (8 - (kk + 1)) (by omega)
                  rw [show 8 - (kk + 1) + 1 = 8 - kk from by omega, show 8 - 1 - (8 - (kk + 1)) = kk from by omega] at this
                  exact this
                have hln : (L ++ [0] ++ (be 8 b).take (8 - (kk + 1))).length + ([UInt8.ofNat (b >>> (8 * kk))].map bv).length ≤ 1000000 := by
                  have h1 := HLL.out
                  simp only [List.length_append, List.length_take, length_be, List.length_map, List.length_cons, List.length_nil]; omega
                have ET := Lib.hid (show L ++ [0] ++ (be 8 b).take (8 - kk) = L ++ [0] ++ (be 8 b).take (8 - (kk + 1)) ++ [UInt8.ofNat (b >>> (8 * kk))] by rw [et, ← List.append_assoc])
                have HLN := Lib.hid hln
                clear et hln
                generalize L ++ [0] ++ (be 8 b).take (8 - (kk + 1)) = M at *
                obtain ⟨T4, ma, mc, hTi, hTs, hTo, hO, hD⟩ := hP
                have HTI := Lib.hid hTi
                have HTS := Lib.hid hTs
                have HTO := Lib.hid hTo
                have HD := Lib.hid hD
                have HP1 : Hid (PadAt B wr.drew (.slice ma M.length mc) M wr.drew) := Lib.hid ⟨own_past hO fun bb h1 h2 => rfl, Below.refl _ _, hD.hi⟩
                have HSZ7 := Lib.hid (show ∀ v : Value, v.cells.size = 1 → i + v.cells.size ≤ T4.size from fun v hv => by rw [hv, hTs]; omega)
                have f7 : ∀ y : In (fun w' : World => w'.heap[q7]? = some (.cells T4 40 (0, 0)) ∧ w'.heap[q5]? = some (.cells N2 39 (0, 0))), y.val.cell? ⟨q7, i, none⟩ = some (.slice ma M.length mc) := fun y => by rw [cell_of_row _ _ _ _ _ _ y.prop.1]; exact HTI.out
                have f5 : ∀ y : In (fun w' : World => w'.heap[q7]? = some (.cells T4 40 (0, 0)) ∧ w'.heap[q5]? = some (.cells N2 39 (0, 0))), y.val.cell? ⟨q5, i, none⟩ = some (.int .i64 (b : Int)) := fun y => by rw [cell_of_row _ _ _ _ _ _ y.prop.2]; exact HNI.out.1
                have ne : Nonempty (In (fun w' : World => w'.heap[q7]? = some (.cells T4 40 (0, 0)) ∧ w'.heap[q5]? = some (.cells N2 39 (0, 0)))) := ⟨⟨wr.drew, HD.out.drew.at 2 q7 _ rfl, HD.out.drew.at 1 q5 _ rfl⟩⟩
                have HQ7 := HQ7B
                rw [e1]
                clear e1 hTi hTs hTo hD hO
                go_upto_region 17 with fail
                refine wp_region_lex (fun w' : World => w'.heap[q7]? = some (.cells T4 40 (0, 0)) ∧ w'.heap[q5]? = some (.cells N2 39 (0, 0))) [11, 12, 14] [14] [3, 6] (by kernel_rfl) (by kernel_rfl) (fun _ => ⟨HD.out.drew.at 2 q7 _ rfl, HD.out.drew.at 1 q5 _ rfl⟩) ?_
                simp only [List.zipIdx_cons, List.zipIdx_nil, Nat.zero_add, Nat.reduceAdd]
                refine lex_blind 3 (by kernel_rfl) ?_
                simp only [List.take_succ_cons, List.take_zero, List.drop_succ_cons, List.drop_zero, List.map_cons, List.map_nil, Act.put, List.setIfInBounds_toArray, List.set_cons_succ, List.set_cons_zero]
                repeat (go_big_quiet_step (fail))
                refine wpQuiet_nil ?_
                refine lex_reads 1 (by kernel_rfl) (by kernel_rfl) ?_
                simp only [List.take_succ_cons, List.take_zero, List.drop_succ_cons, List.drop_zero, List.map_cons, List.map_nil, Act.put, List.setIfInBounds_toArray, List.set_cons_succ, List.set_cons_zero]
                repeat (go_big_quiet_step (fail))
                refine wpQuiet_nil ?_
                refine lex_blind 2 (by kernel_rfl) ?_
                simp only [List.take_succ_cons, List.take_zero, List.drop_succ_cons, List.drop_zero, List.map_cons, List.map_nil, Act.put, List.setIfInBounds_toArray, List.set_cons_succ, List.set_cons_zero]
                repeat (go_big_quiet_step (fail))
                refine wpQuiet_nil ?_
                refine lex_reads 1 (by kernel_rfl) (by kernel_rfl) ?_
                simp only [List.take_succ_cons, List.take_zero, List.drop_succ_cons, List.drop_zero, List.map_cons, List.map_nil, Act.put, List.setIfInBounds_toArray, List.set_cons_succ, List.set_cons_zero]
                repeat (go_big_quiet_step (fail))
                refine wpQuiet_nil ?_
                refine lex_blind 4 (by kernel_rfl) ?_
                simp only [List.take_succ_cons, List.take_zero, List.drop_succ_cons, List.drop_zero, List.map_cons, List.map_nil, Act.put, List.setIfInBounds_toArray, List.set_cons_succ, List.set_cons_zero]
                repeat (go_big_quiet_step (fail))
                refine wpQuiet_nil ?_
                refine lex_act rfl rfl (fun K hK => ?_)
                go_simp
                refine hK _ _ (ActLeft.keep rfl fun h => ⟨heap_old h.1 _, heap_old h.2 _⟩) ?_
                clear hK K
                refine lex_act rfl rfl (fun K hK => ?_)
                refine wp_append_mine (.tmp 74) (.tmp 82) 22 rfl elem_u8 rfl rfl (HP1.out.own.alloc _) (HP1.out.base_le) (B := wr.heap.size + 1) (ys := [UInt8.ofNat (b >>> (8 * kk))].map bv) (RV.eq_cells (be_val b (8 * kk)) (rv_byte wr.drew _)) (one_bytes _) (small_len HLN.out) (small_bytes HLN.out) ?_
                intro v7 w7 hg7 ho7
                have HP2 := Lib.hid (HP1.out.push hg7 ho7)
                have HD2 := Lib.hid (HD.out.drew.call HP2.out.below)
                obtain ⟨na, nc, rfl⟩ := own_form HP2.out.own
                clear hg7 ho7
                refine hK _ _ (ActLeft.keep rfl fun h => ⟨HD2.out.at 2 q7 _ rfl, HD2.out.at 1 q5 _ rfl⟩) ?_
                clear hK K
                refine lex_blind 1 (by kernel_rfl) ?_
                simp only [List.take_succ_cons, List.take_zero, List.drop_succ_cons, List.drop_zero, List.map_cons, List.map_nil, Act.put, List.setIfInBounds_toArray, List.set_cons_succ, List.set_cons_zero]
                repeat (go_big_quiet_step (fail))
                refine wpQuiet_nil ?_
                refine lex_act rfl rfl (fun K hK => ?_)
                refine wp_store_upd 22 (.tmp 84) (.tmp 83) rfl q7 i (.slice na (M ++ [UInt8.ofNat (b >>> (8 * kk))]).length nc) rfl rfl _ _ (HD2.out.at 2 q7 _ rfl) info_sl (HSZ7.out _ rfl) (one_sl _ _ _) rfl ?_
                intro w8 hu8
                rw [arr_set2 HTS.out i hi2 _ rfl] at hu8
                replace hu8 := Lib.hid hu8
                refine hK _ _ (ActLeft.last rfl rfl) ?_
                clear hK K
                refine lex_nil ?_
                have hN : DvT w q4 q5 q7 S2 N2 T vs B i (L ++ [0] ++ (be 8 b).take (8 - kk)) w8 := by
                  have tf := set_facts HTS.out i hi2 rfl (v := .slice na (M ++ [UInt8.ofNat (b >>> (8 * kk))]).length nc)
                  rw [ET.out]
                  exact ⟨_, na, nc, tf.1, tf.2.1, fun j hj => (tf.2.2 j hj).trans (HTO.out j hj), own_past HP2.out.own fun bb h1 h2 => hu8.out.other bb (by have := HQ7.out; omega), HD2.out.put 2 q7 rfl hu8.out⟩
                have HN := Lib.hid hN
                clear hN f7 f5 ne hu8 HP1 HP2 HD HD2
                go_wp2_with fail
                go_roundg kk
                case measure => omega
                case rel => exact ⟨by omega, by go_num, HN.out⟩
          · go_upto_region 12 with fail
            have hD1 := HW.out
            have HD1 := Lib.hid hD1
            obtain ⟨str, hstr⟩ : ∃ str : ByteArray, str = ⟨L.toArray⟩ := ⟨_, rfl⟩
            have hstl : str.data.toList = L := by rw [hstr]
            have hsts : str.size = L.length := by rw [← hstl, Array.length_toList]; rfl
            have HSTL := Lib.hid hstl
            have HSTS := Lib.hid hsts
            have hconv := run_bytes_str (P := Tryd.prog) Tryd.underlying9 Tryd.underlying22 Tryd.underlying5 (RD.drewN (show RD wr.heap.size wr _ L from RV.of_owns HP.out.own) 1)
            rw [← hstr] at hconv
            have HS2 := Lib.hid HR.out.s2
            have HN2 := Lib.hid HR.out.n2
            have HT2 := Lib.hid HR.out.t2
            have hi2 := HI2.out
            have HSZ4 := Lib.hid (show i + (Value.string str).cells.size ≤ S.size by rw [HR.out.s2]; show i + 1 ≤ 2; omega)
            have HSZ5 := Lib.hid (show i + (Value.int .i64 (b : Int)).cells.size ≤ N.size by rw [HR.out.n2]; show i + 1 ≤ 2; omega)
            have f5 : ∀ y : In (fun w' : World => w'.heap[q5]? = some (.cells N 39 (0, 0)) ∧ (convert 22 9 (.slice la L.length lc)).run Tryd.prog w' = .ok (.string str) w'), y.val.cell? ⟨q5, i, none⟩ = some (.int .i64 a) := fun y => by rw [cell_of_row _ _ _ _ _ _ y.prop.1]; exact HNi.out
            have fcv : ∀ y : In (fun w' : World => w'.heap[q5]? = some (.cells N 39 (0, 0)) ∧ (convert 22 9 (.slice la L.length lc)).run Tryd.prog w' = .ok (.string str) w'), (convert 22 9 (.slice la L.length lc)).run Tryd.prog y.val = .ok (.string str) y.val := fun y => y.prop.2
            have ne : Nonempty (In (fun w' : World => w'.heap[q5]? = some (.cells N 39 (0, 0)) ∧ (convert 22 9 (.slice la L.length lc)).run Tryd.prog w' = .ok (.string str) w')) := ⟨⟨wr.drew, HD1.out.drew.at 1 q5 _ rfl, hconv⟩⟩
            have HD1 := Lib.hid hD1
            clear hstr hstl hsts hD1 hc4 hN5 hks hsl hxx
            refine wp_region_lex (fun w' : World => w'.heap[q5]? = some (.cells N 39 (0, 0)) ∧ (convert 22 9 (.slice la L.length lc)).run Tryd.prog w' = .ok (.string str) w') [7, 9, 11] [9, 11] [3, 6] (by kernel_rfl) (by kernel_rfl) (fun _ => ⟨HD1.out.drew.at 1 q5 _ rfl, hconv⟩) ?_
            simp only [List.zipIdx_cons, List.zipIdx_nil, Nat.zero_add, Nat.reduceAdd]
            refine lex_blind 3 (by kernel_rfl) ?_
            simp only [List.take_succ_cons, List.take_zero, List.drop_succ_cons, List.drop_zero, List.map_cons, List.map_nil, Act.put, List.setIfInBounds_toArray, List.set_cons_succ, List.set_cons_zero]
            repeat (go_big_quiet_step (fail))
            refine wpQuiet_nil ?_
            refine lex_reads 1 (by kernel_rfl) (by kernel_rfl) ?_
            simp only [List.take_succ_cons, List.take_zero, List.drop_succ_cons, List.drop_zero, List.map_cons, List.map_nil, Act.put, List.setIfInBounds_toArray, List.set_cons_succ, List.set_cons_zero]
            repeat (go_big_quiet_step (fail))
            refine wpQuiet_nil ?_
            refine lex_blind 2 (by kernel_rfl) ?_
            simp only [List.take_succ_cons, List.take_zero, List.drop_succ_cons, List.drop_zero, List.map_cons, List.map_nil, Act.put, List.setIfInBounds_toArray, List.set_cons_succ, List.set_cons_zero]
            repeat (go_big_quiet_step (fail))
            refine wpQuiet_nil ?_
            refine lex_reads 1 (by kernel_rfl) (by kernel_rfl) ?_
            simp only [List.take_succ_cons, List.take_zero, List.drop_succ_cons, List.drop_zero, List.map_cons, List.map_nil, Act.put, List.setIfInBounds_toArray, List.set_cons_succ, List.set_cons_zero]
            repeat (go_big_quiet_step (fail))
            refine wpQuiet_nil ?_
            refine lex_act rfl rfl (fun K hK => ?_)
            go_simp
            refine (bring_calls a (9007199254740992 : Int) (by omega) (by omega) FA.out.1 FA.out.2 _).mono ?_
            rintro e x1 ⟨rfl, rfl⟩
            rw [HBN.out]
            refine hK _ _ (ActLeft.keep rfl fun h => h) ?_
            clear hK K
            refine lex_blind 1 (by kernel_rfl) ?_
            simp only [List.take_succ_cons, List.take_zero, List.drop_succ_cons, List.drop_zero, List.map_cons, List.map_nil, Act.put, List.setIfInBounds_toArray, List.set_cons_succ, List.set_cons_zero]
            repeat (go_big_quiet_step (fail))
            refine wpQuiet_nil ?_
            refine lex_act rfl rfl (fun K hK => ?_)
            refine wp_store_upd 9 (.tmp 60) (.tmp 55) rfl q4 i (.string str) rfl rfl _ _ (HD1.out.drew.at 0 q4 _ rfl) info_str HSZ4.out one_str rfl ?_
            intro w5 hu5
            rw [arr_set2 HS2.out i hi2 _ rfl] at hu5
            have HD2 := Lib.hid (HD1.out.drew.put 0 q4 rfl hu5)
            refine hK _ _ (ActLeft.last rfl rfl) ?_
            clear hK K
            refine lex_blind 1 (by kernel_rfl) ?_
            simp only [List.take_succ_cons, List.take_zero, List.drop_succ_cons, List.drop_zero, List.map_cons, List.map_nil, Act.put, List.setIfInBounds_toArray, List.set_cons_succ, List.set_cons_zero]
            repeat (go_big_quiet_step (fail))
            refine wpQuiet_nil ?_
            refine lex_act rfl rfl (fun K hK => ?_)
            refine wp_store_upd 3 (.tmp 61) (.tmp 59) rfl q5 i (.int .i64 (b : Int)) rfl rfl _ _ (HD2.out.at 1 q5 _ rfl) info_int HSZ5.out one_intv rfl ?_
            intro w6 hu6
            rw [arr_set2 HN2.out i hi2 _ rfl] at hu6
            have HD3 := Lib.hid (HD2.out.put 1 q5 rfl hu6)
            refine hK _ _ (ActLeft.last rfl rfl) ?_
            clear hK K
            refine lex_nil ?_
            have hq4B : q4 < B := HW.out.ltB 0 q4 _ rfl
            have hq5B : q5 < B := HW.out.ltB 1 q5 _ rfl
            have hq7B : q7 < B := HW.out.ltB 2 q7 _ rfl
            have HQ7B := Lib.hid hq7B
            obtain ⟨S2, hS2⟩ : ∃ S2, S.setIfInBounds i (.string str) = S2 := ⟨_, rfl⟩
            obtain ⟨N2, hN2⟩ : ∃ N2, N.setIfInBounds i (.int .i64 (b : Int)) = N2 := ⟨_, rfl⟩
            have HSI := Lib.hid (set_facts HS2.out i hi2 hS2)
            have HNI := Lib.hid (set_facts HN2.out i hi2 hN2)
            have HD4 : Hid (Hb w (DL q4 q5 q7 S2 N2 T) vs B w6) := Lib.hid (by rw [← hS2, ← hN2]; exact HD3.out)
            have HO6 : Hid (PadAt B w6 (.slice la L.length lc) L w6) := Lib.hid ⟨own_past HP.out.own fun bb h1 h2 => ((hu6.other bb (by omega)).trans (hu5.other bb (by omega))), Below.refl _ _, HD4.out.hi⟩
            have hl13 := HLL.out
            have HL13 := Lib.hid (show L.length + 1 ≤ 1000000 by omega)
            clear hS2 hN2 hu5 hu6 hx0 hx1 f5 fcv ne hq4B hq5B hq7B hb53 HD1 HD2 HD3 HP HW hl13 hconv
            have hi2I : (i : Int) < 2 := by omega
            go_upto_region 14 with (first
              | (refine wpList_store_upd rfl 22 (.tmp 66) (.tmp 65) rfl q7 i (.slice ta tl tc) rfl rfl _ _ (HD5.out.at 2 q7 _ rfl) info_sl (by rw [HT2.out]; show i + 1 ≤ 2; omega) (one_sl _ _ _) rfl ?_; intro w8 hu8; rw [arr_set2 HT2.out i hi2 _ rfl] at hu8; replace hu8 := Lib.hid hu8)
              | (at_builtin; refine wpList_append_mine rfl (.tmp 63) (.tmp 64) 22 rfl elem_u8 rfl rfl (HO6.out.own.alloc _) (HO6.out.base_le) (rv_byte w6 0) (one_bytes [0]) (small_len HL13.out) (small_bytes HL13.out) ?_; intro v7 w7 hg7 ho7; have HO7 := Lib.hid (HO6.out.push hg7 ho7); have HD5 := Lib.hid (HD4.out.call HO7.out.below); have hf7 := own_form HO7.out.own; obtain ⟨ta, tc, rfl⟩ := hf7; clear hg7 ho7; generalize (L ++ [0]).length = tl at *))
            obtain ⟨T3, hT3⟩ : ∃ T3, T.setIfInBounds i (.slice ta tl tc) = T3 := ⟨_, rfl⟩
            rw [hT3] at hu8
            have tf := set_facts HT2.out i hi2 hT3
            have hD8 := HD5.out.put 2 q7 rfl hu8.out
            have hO8 := own_past HO7.out.own fun bb h1 h2 => hu8.out.other bb (by have := HQ7B.out; omega)
            have hT0 : DvT w q4 q5 q7 S2 N2 T vs B i (L ++ [0] ++ (be 8 b).take (8 - 8)) w8 := by
              obtain ⟨a9, c9, e9⟩ := own_form hO8
              rw [Nat.sub_self, List.take_zero, List.append_nil]
              refine ⟨T3, a9, c9, by rw [← e9]; exact tf.1, tf.2.1, tf.2.2, by rw [← e9]; exact hO8, hD8⟩
            have HT0 := Lib.hid hT0
            clear hT3 tf hD8 hO8 hT0 HD4 HD5 HO6 HO7 hu8
            obtain ⟨go2, rfl⟩ : ∃ go2, go2 = gk := ⟨_, rfl⟩
            obtain ⟨w9, rfl⟩ : ∃ w9 : World, w9 = wr := ⟨_, rfl⟩
            go_wp2_with fail
            go_loopg [11] 8 (fun g iv wr => g ≤ 8 ∧ iv = .int .i64 ((g : Int) - 1) ∧ DvT w q4 q5 q7 S2 N2 T vs B i (L ++ [0] ++ (be 8 b).take (8 - g)) wr)
            case atStart => exact ⟨Nat.le_refl _, rfl, HT0.out⟩
            case round =>
              obtain ⟨hg8, rfl, hP⟩ := hrel
              clear HT0
              rcases gk with _ | kk
              · obtain ⟨T4, ma, mc, hTi, hTs, hTo, hO, hD⟩ := hP
                have hfull : L ++ [0] ++ (be 8 b).take (8 - 0) = told L b := by rw [told_eq, List.take_of_length_le (by rw [length_be]; exact Nat.le_refl 8)]
                rw [hfull] at hTi hO
                have HTI := Lib.hid hTi
                have HTS := Lib.hid hTs
                have HTO := Lib.hid hTo
                have HD := Lib.hid (hD.own hO)
                have HKM : (u, m) ∈ (Value.slice ma (told L b).length mc, told L b) :: vs := List.mem_cons_of_mem _ HR.out.key
                have HKM := Lib.hid HKM
                have HTL := Lib.hid (show (told L b).length ≤ 500000000000 by rw [length_told]; have := HLL.out; omega)
                have f4 : ∀ y : In (fun w' : World => w'.heap[q4]? = some (.cells S2 38 (0, 0)) ∧ w'.heap[q5]? = some (.cells N2 39 (0, 0))), y.val.cell? ⟨q4, i, none⟩ = some (.string str) := fun y => by rw [cell_of_row _ _ _ _ _ _ y.prop.1]; exact HSI.out.1
                have f5 : ∀ y : In (fun w' : World => w'.heap[q4]? = some (.cells S2 38 (0, 0)) ∧ w'.heap[q5]? = some (.cells N2 39 (0, 0))), y.val.cell? ⟨q5, i, none⟩ = some (.int .i64 (b : Int)) := fun y => by rw [cell_of_row _ _ _ _ _ _ y.prop.2]; exact HNI.out.1
                have ne : Nonempty (In (fun w' : World => w'.heap[q4]? = some (.cells S2 38 (0, 0)) ∧ w'.heap[q5]? = some (.cells N2 39 (0, 0)))) := ⟨⟨wr.drew, HD.out.drew.at 0 q4 _ rfl, HD.out.drew.at 1 q5 _ rfl⟩⟩
                have hsm : str.size ≤ 100000 := by rw [HSTS.out]; have := HLL.out; omega
                have HSM := Lib.hid hsm
                have hdrv : drv m str (b : Int) = ((hmac m (told L b)).take 16, 0) := by
                  rw [drv_ok m str b (by rw [HSTL.out]; exact HNZ.out) HB53.out, HSTL.out]
                obtain ⟨MM, hMM⟩ : ∃ MM, hmac m (told L b) = MM := ⟨_, rfl⟩
                rw [hMM] at hdrv
                have HMM := Lib.hid hMM
                have HML := Lib.hid (show MM.length = 32 by rw [← hMM]; exact length_hmac _ _)
                obtain ⟨DD, hDD⟩ : ∃ DD, MM.take 16 = DD := ⟨_, rfl⟩
                rw [hDD] at hdrv
                have HDV := Lib.hid hdrv
                have HDD := Lib.hid hDD
                have HDL := Lib.hid (show DD.length = 16 by rw [← hDD, List.length_take, HML.out]; rfl)
                clear hTi hTs hTo hO hD hfull hsm hdrv hMM hDD
                go_upto_region 18 with fail
                refine wp_region_float_at 7 11 (fun w' : World => w'.heap[q4]? = some (.cells S2 38 (0, 0)) ∧ w'.heap[q5]? = some (.cells N2 39 (0, 0))) [7, 11, 12] [] [3, 6] (fun q w' => Hb w ((q, .cells (A16 DD) 41 (0, 0)) :: DL q4 q5 q7 S2 N2 T4) ((Value.slice ma (told L b).length mc, told L b) :: vs) w'.heap.size w') (by kernel_rfl) (by kernel_rfl) (by decide) (fun _ => ⟨HD.out.drew.at 0 q4 _ rfl, HD.out.drew.at 1 q5 _ rfl⟩) ?_
                apply Exists.intro
                refine ⟨?_, ?_, ?_⟩
                · simp only [List.zipIdx_cons, List.zipIdx_nil, Nat.zero_add, Nat.reduceAdd]
                  refine lex_blind 3 (by kernel_rfl) ?_
                  simp only [List.take_succ_cons, List.take_zero, List.drop_succ_cons, List.drop_zero, List.map_cons, List.map_nil, Act.put, List.setIfInBounds_toArray, List.set_cons_succ, List.set_cons_zero]
                  repeat (go_big_quiet_step (fail))
                  refine wpQuiet_nil ?_
                  refine lex_reads 1 (by kernel_rfl) (by kernel_rfl) ?_
                  simp only [List.take_succ_cons, List.take_zero, List.drop_succ_cons, List.drop_zero, List.map_cons, List.map_nil, Act.put, List.setIfInBounds_toArray, List.set_cons_succ, List.set_cons_zero]
                  repeat (go_big_quiet_step (fail))
                  refine wpQuiet_nil ?_
                  refine lex_blind 2 (by kernel_rfl) ?_
                  simp only [List.take_succ_cons, List.take_zero, List.drop_succ_cons, List.drop_zero, List.map_cons, List.map_nil, Act.put, List.setIfInBounds_toArray, List.set_cons_succ, List.set_cons_zero]
                  repeat (go_big_quiet_step (fail))
                  refine wpQuiet_nil ?_
                  refine lex_reads 1 (by kernel_rfl) (by kernel_rfl) ?_
                  simp only [List.take_succ_cons, List.take_zero, List.drop_succ_cons, List.drop_zero, List.map_cons, List.map_nil, Act.put, List.setIfInBounds_toArray, List.set_cons_succ, List.set_cons_zero]
                  repeat (go_big_quiet_step (fail))
                  refine wpQuiet_nil ?_
                  refine lex_act rfl rfl (fun K hK => ?_)
                  go_simp
                  refine (derive_calls u m str (b : Int) HSM.out _ HD.out.drew.tab (HD.out.drew.rdm HKM.out) HLK.out).mono ?_
                  rintro e w8 ⟨rfl, hb8⟩
                  rw [HDV.out]
                  have HD2 := Lib.hid (HD.out.drew.calls hb8)
                  clear hb8
                  refine hK _ _ (ActLeft.keep rfl fun h => ⟨HD2.out.at 0 q4 _ rfl, HD2.out.at 1 q5 _ rfl⟩) ?_
                  clear hK K
                  refine lex_blind 3 (by kernel_rfl) ?_
                  simp only [List.take_succ_cons, List.take_zero, List.drop_succ_cons, List.drop_zero, List.map_cons, List.map_nil, Act.put, List.setIfInBounds_toArray, List.set_cons_succ, List.set_cons_zero]
                  repeat (go_big_quiet_step (fail))
                  refine wpQuiet_nil ?_
                  refine lex_act rfl rfl (fun K hK => ?_)
                  go_simp
                  refine hK _ _ (ActLeft.keep rfl fun h => ⟨heap_old h.1 _, heap_old h.2 _⟩) ?_
                  clear hK K
                  refine lex_act rfl rfl (fun K hK => ?_)
                  refine wp_store_upd 41 (.tmp 12) (.tmp 94) rfl w8.heap.size 0 (.agg (A16 DD)) rfl rfl _ z16 (heap_new w8 _) (info_A16 DD HDL.out) (le_A16l DD HDL.out) (one_A16 _) rfl ?_
                  intro w9 hu9
                  rw [put_z16 DD HDL.out] at hu9
                  have HD3 := Lib.hid (HD2.out.newUpd hu9)
                  clear hu9
                  refine hK _ _ (ActLeft.keep rfl fun h => ⟨HD3.out.at 1 q4 _ rfl, HD3.out.at 2 q5 _ rfl⟩) ?_
                  clear hK K
                  refine lex_blind 1 (by kernel_rfl) ?_
                  simp only [List.take_succ_cons, List.take_zero, List.drop_succ_cons, List.drop_zero, List.map_cons, List.map_nil, Act.put, List.setIfInBounds_toArray, List.set_cons_succ, List.set_cons_zero]
                  repeat (go_big_quiet_step (fail))
                  refine wpQuiet_nil ?_
                  obtain ⟨q12, hq12⟩ : ∃ q, w8.heap.size = q := ⟨_, rfl⟩
                  rw [hq12] at HD3 ⊢
                  exact lex_nil ⟨rfl, q12, rfl, HD3.out⟩
                · simp only [List.zipIdx_cons, List.zipIdx_nil, Nat.zero_add, Nat.reduceAdd, List.filter_cons, List.filter_nil, bne, Nat.reduceBEq, Bool.not_true, Bool.not_false, if_true, Bool.false_eq_true, if_false, List.getElem_cons_succ, List.getElem_cons_zero]
                  refine lex_act rfl rfl (fun K hK => ?_)
                  go_simp
                  refine hK _ _ (ActLeft.keep rfl fun h => ⟨heap_old h.1 _, heap_old h.2 _⟩) ?_
                  clear hK K
                  have HDA := Lib.hid (HD.out.drew.fresh (.cells z16 41))
                  refine lex_blind 3 (by kernel_rfl) ?_
                  simp only [List.take_succ_cons, List.take_zero, List.drop_succ_cons, List.drop_zero, List.map_cons, List.map_nil, Act.put, List.setIfInBounds_toArray, List.set_cons_succ, List.set_cons_zero]
                  repeat (go_big_quiet_step (fail))
                  refine wpQuiet_nil ?_
                  refine lex_reads 1 (by kernel_rfl) (by kernel_rfl) ?_
                  simp only [List.take_succ_cons, List.take_zero, List.drop_succ_cons, List.drop_zero, List.map_cons, List.map_nil, Act.put, List.setIfInBounds_toArray, List.set_cons_succ, List.set_cons_zero]
                  repeat (go_big_quiet_step (fail))
                  refine wpQuiet_nil ?_
                  refine lex_blind 2 (by kernel_rfl) ?_
                  simp only [List.take_succ_cons, List.take_zero, List.drop_succ_cons, List.drop_zero, List.map_cons, List.map_nil, Act.put, List.setIfInBounds_toArray, List.set_cons_succ, List.set_cons_zero]
                  repeat (go_big_quiet_step (fail))
                  refine wpQuiet_nil ?_
                  refine lex_reads 1 (by kernel_rfl) (by kernel_rfl) ?_
                  simp only [List.take_succ_cons, List.take_zero, List.drop_succ_cons, List.drop_zero, List.map_cons, List.map_nil, Act.put, List.setIfInBounds_toArray, List.set_cons_succ, List.set_cons_zero]
                  repeat (go_big_quiet_step (fail))
                  refine wpQuiet_nil ?_
                  refine lex_act rfl rfl (fun K hK => ?_)
                  go_simp
                  refine (derive_calls u m str (b : Int) HSM.out _ HDA.out.tab (HDA.out.rdm HKM.out) HLK.out).mono ?_
                  rintro e w8 ⟨rfl, hb8⟩
                  rw [HDV.out]
                  have HD2 := Lib.hid (HDA.out.calls hb8)
                  clear hb8
                  refine hK _ _ (ActLeft.keep rfl fun h => ⟨HD2.out.at 1 q4 _ rfl, HD2.out.at 2 q5 _ rfl⟩) ?_
                  clear hK K
                  refine lex_blind 3 (by kernel_rfl) ?_
                  simp only [List.take_succ_cons, List.take_zero, List.drop_succ_cons, List.drop_zero, List.map_cons, List.map_nil, Act.put, List.setIfInBounds_toArray, List.set_cons_succ, List.set_cons_zero]
                  repeat (go_big_quiet_step (fail))
                  refine wpQuiet_nil ?_
                  refine lex_act rfl rfl (fun K hK => ?_)
                  refine wp_store_upd 41 (.tmp 12) (.tmp 94) rfl wr.heap.size 0 (.agg (A16 DD)) rfl rfl _ z16 (HD2.out.at 0 _ _ rfl) (info_A16 DD HDL.out) (le_A16l DD HDL.out) (one_A16 _) rfl ?_
                  intro w9 hu9
                  rw [put_z16 DD HDL.out] at hu9
                  have HD3 := Lib.hid ((HD2.out.put 0 _ rfl hu9).top)
                  clear hu9
                  refine hK _ _ (ActLeft.keep rfl fun h => ⟨HD3.out.at 1 q4 _ rfl, HD3.out.at 2 q5 _ rfl⟩) ?_
                  clear hK K
                  refine lex_blind 1 (by kernel_rfl) ?_
                  simp only [List.take_succ_cons, List.take_zero, List.drop_succ_cons, List.drop_zero, List.map_cons, List.map_nil, Act.put, List.setIfInBounds_toArray, List.set_cons_succ, List.set_cons_zero]
                  repeat (go_big_quiet_step (fail))
                  refine wpQuiet_nil ?_
                  obtain ⟨q12, hq12⟩ : ∃ q, wr.drew.heap.size = q := ⟨_, rfl⟩
                  rw [hq12] at HD3
                  change wr.heap.size = q12 at hq12
                  (try rw [hq12])
                  exact lex_nil ⟨rfl, q12, rfl, HD3.out⟩
                rintro q12 w9 hd3
                have HD3 := Lib.hid hd3
                clear hd3
                have hc7 : w9.cell? ⟨q7, i, none⟩ = some (.slice ma (told L b).length mc) := by rw [cell_of_row _ _ _ _ _ _ (HD3.out.at 3 q7 _ rfl)]; exact HTI.out
                clear f4 f5 ne HD
                go_upto_region 20 with (first
                  | (refine wpList_store_upd rfl 24 (.tmp 14) (.tmp 100) rfl w10.heap.size 0 (.agg (A32 MM)) rfl rfl _ z32 (heap_new w10 _) (info_A32l MM HML.out) (le_A32l MM HML.out) (one_A32 _) rfl ?_; intro w11 hu11; rw [put_z32 MM HML.out] at hu11; have HD5 := Lib.hid (HD4.out.newUpd hu11); clear hu11)
                  | (go_at_call 10; refine (mac_M MM u _ m (told L b) HMM.out _ HD3.out.tab (HD3.out.rdm HKM.out) (HD3.out.rd 0 _ _ rfl) HLK2.out HTL.out).mono ?_; rintro e w10 ⟨rfl, hb10⟩; have HD4 := Lib.hid (HD3.out.calls hb10); clear hb10))
                obtain ⟨q14, hq14⟩ : ∃ q, w10.heap.size = q := ⟨_, rfl⟩
                rw [hq14] at HD5 ⊢
                clear HD3 HD4 hq14 hc7
                have hdm : (DD.take 16 == MM.take 16) = true := by rw [HDD.out, List.take_of_length_le (Nat.le_of_eq HDL.out)]; simp
                have HDM := Lib.hid hdm
                clear hdm
                refine wp_region_lex (Every) [5] [] [] (by kernel_rfl) (by kernel_rfl) (fun _ => trivial) ?_
                simp only [List.zipIdx_cons, List.zipIdx_nil, Nat.zero_add, Nat.reduceAdd]
                refine lex_blind 5 (by kernel_rfl) ?_
                simp only [List.take_succ_cons, List.take_zero, List.drop_succ_cons, List.drop_zero, List.map_cons, List.map_nil, Act.put, List.setIfInBounds_toArray, List.set_cons_succ, List.set_cons_zero]
                repeat (go_big_quiet_step (fail))
                refine wpQuiet_nil ?_
                refine lex_act rfl rfl (fun K hK => ?_)
                go_simp
                refine (eqBytes_calls _ _ (DD.take 16) (MM.take 16) _ (rd_arr HDL.out 16 (Nat.le_refl _) (by decide) (HD5.out.drew.at 1 q12 _ rfl)) (rd_arr HML.out 16 (by decide) (by decide) (HD5.out.drew.at 0 q14 _ rfl))).mono ?_
                rintro e w12 ⟨rfl, rfl⟩
                rw [HDM.out]
                refine hK _ _ (ActLeft.keep rfl fun h => h) ?_
                clear hK K
                refine lex_blind 2 (by kernel_rfl) ?_
                simp only [List.take_succ_cons, List.take_zero, List.drop_succ_cons, List.drop_zero, List.map_cons, List.map_nil, Act.put, List.setIfInBounds_toArray, List.set_cons_succ, List.set_cons_zero]
                repeat (go_big_quiet_step (fail))
                refine wpQuiet_nil ?_
                refine lex_nil ?_
                have HD6 : Hid (DvR w q4 q5 q7 u m (i + 1) S2 N2 T4 ((Value.slice ma (told L b).length mc, told L b) :: vs) w11.drew) := Lib.hid (by
                  refine ⟨(HD5.out.drew.tail.tail).top, HSI.out.2.1, HNI.out.2.1, HTS.out, HKM.out, fun j h1 h2 => ?_, fun j h1 h2 => ?_, fun j h1 => ?_⟩
                  · rw [HSI.out.2.2 j (by omega)]; exact HR.out.strs j (by omega) h2
                  · rw [HNI.out.2.2 j (by omega)]; exact HR.out.ints j (by omega) h2
                  · by_cases hji : j = i
                    · subst hji
                      exact ⟨str, b, _, HSI.out.1, by rw [HSTS.out]; exact HLL.out, HNI.out.1, HB53.out, HTI.out, ⟨_, _, _, rfl⟩, by rw [HSTL.out]; exact List.mem_cons_self⟩
                    · obtain ⟨s', n', v', a1, a2, a3, a4, a5, a6, a7⟩ := HR.out.done j (by omega)
                      exact ⟨s', n', v', (HSI.out.2.2 j hji).trans a1, a2, (HNI.out.2.2 j hji).trans a3, a4, (HTO.out j hji).trans a5, a6, List.mem_cons_of_mem _ a7⟩)
                clear HD5 HR
                go_wp2_with fail
                go_roundg (go - 1)
                case measure => omega
                case rel => exact ⟨i + 1, by omega, by go_num, _, _, _, _, HD6.out⟩
              · have e1 : ((kk + 1 : Nat) : Int) - 1 = (kk : Int) := by omega
                have hk0 : (0 : Int) ≤ (kk : Int) := by omega
                have hk7 : (kk : Int) ≤ 7 := by omega
                have et : (be 8 b).take (8 - kk) = (be 8 b).take (8 - (kk + 1)) ++ [UInt8.ofNat (b >>> (8 * kk))] := by
                  have := be_take 8 b (8 - (kk + 1)) (by omega)
                  rw [show 8 - (kk + 1) + 1 = 8 - kk from by omega, show 8 - 1 - (8 - (kk + 1)) = kk from by omega] at this
                  exact this
                have hln : (L ++ [0] ++ (be 8 b).take (8 - (kk + 1))).length + ([UInt8.ofNat (b >>> (8 * kk))].map bv).length ≤ 1000000 := by
                  have h1 := HLL.out
                  simp only [List.length_append, List.length_take, length_be, List.length_map, List.length_cons, List.length_nil]; omega
                have ET := Lib.hid (show L ++ [0] ++ (be 8 b).take (8 - kk) = L ++ [0] ++ (be 8 b).take (8 - (kk + 1)) ++ [UInt8.ofNat (b >>> (8 * kk))] by rw [et, ← List.append_assoc])
                have HLN := Lib.hid hln
                clear et hln
                generalize L ++ [0] ++ (be 8 b).take (8 - (kk + 1)) = M at *
                obtain ⟨T4, ma, mc, hTi, hTs, hTo, hO, hD⟩ := hP
                have HTI := Lib.hid hTi
                have HTS := Lib.hid hTs
                have HTO := Lib.hid hTo
                have HD := Lib.hid hD
                have HP1 : Hid (PadAt B wr.drew (.slice ma M.length mc) M wr.drew) := Lib.hid ⟨own_past hO fun bb h1 h2 => rfl, Below.refl _ _, hD.hi⟩
                have HSZ7 := Lib.hid (show ∀ v : Value, v.cells.size = 1 → i + v.cells.size ≤ T4.size from fun v hv => by rw [hv, hTs]; omega)
                have f7 : ∀ y : In (fun w' : World => w'.heap[q7]? = some (.cells T4 40 (0, 0)) ∧ w'.heap[q5]? = some (.cells N2 39 (0, 0))), y.val.cell? ⟨q7, i, none⟩ = some (.slice ma M.length mc) := fun y => by rw [cell_of_row _ _ _ _ _ _ y.prop.1]; exact HTI.out
                have f5 : ∀ y : In (fun w' : World => w'.heap[q7]? = some (.cells T4 40 (0, 0)) ∧ w'.heap[q5]? = some (.cells N2 39 (0, 0))), y.val.cell? ⟨q5, i, none⟩ = some (.int .i64 (b : Int)) := fun y => by rw [cell_of_row _ _ _ _ _ _ y.prop.2]; exact HNI.out.1
                have ne : Nonempty (In (fun w' : World => w'.heap[q7]? = some (.cells T4 40 (0, 0)) ∧ w'.heap[q5]? = some (.cells N2 39 (0, 0)))) := ⟨⟨wr.drew, HD.out.drew.at 2 q7 _ rfl, HD.out.drew.at 1 q5 _ rfl⟩⟩
                have HQ7 := HQ7B
                rw [e1]
                clear e1 hTi hTs hTo hD hO
                go_upto_region 17 with fail
                refine wp_region_lex (fun w' : World => w'.heap[q7]? = some (.cells T4 40 (0, 0)) ∧ w'.heap[q5]? = some (.cells N2 39 (0, 0))) [11, 12, 14] [14] [3, 6] (by kernel_rfl) (by kernel_rfl) (fun _ => ⟨HD.out.drew.at 2 q7 _ rfl, HD.out.drew.at 1 q5 _ rfl⟩) ?_
                simp only [List.zipIdx_cons, List.zipIdx_nil, Nat.zero_add, Nat.reduceAdd]
                refine lex_blind 3 (by kernel_rfl) ?_
                simp only [List.take_succ_cons, List.take_zero, List.drop_succ_cons, List.drop_zero, List.map_cons, List.map_nil, Act.put, List.setIfInBounds_toArray, List.set_cons_succ, List.set_cons_zero]
                repeat (go_big_quiet_step (fail))
                refine wpQuiet_nil ?_
                refine lex_reads 1 (by kernel_rfl) (by kernel_rfl) ?_
                simp only [List.take_succ_cons, List.take_zero, List.drop_succ_cons, List.drop_zero, List.map_cons, List.map_nil, Act.put, List.setIfInBounds_toArray, List.set_cons_succ, List.set_cons_zero]
                repeat (go_big_quiet_step (fail))
                refine wpQuiet_nil ?_
                refine lex_blind 2 (by kernel_rfl) ?_
                simp only [List.take_succ_cons, List.take_zero, List.drop_succ_cons, List.drop_zero, List.map_cons, List.map_nil, Act.put, List.setIfInBounds_toArray, List.set_cons_succ, List.set_cons_zero]
                repeat (go_big_quiet_step (fail))
                refine wpQuiet_nil ?_
                refine lex_reads 1 (by kernel_rfl) (by kernel_rfl) ?_
                simp only [List.take_succ_cons, List.take_zero, List.drop_succ_cons, List.drop_zero, List.map_cons, List.map_nil, Act.put, List.setIfInBounds_toArray, List.set_cons_succ, List.set_cons_zero]
                repeat (go_big_quiet_step (fail))
                refine wpQuiet_nil ?_
                refine lex_blind 4 (by kernel_rfl) ?_
                simp only [List.take_succ_cons, List.take_zero, List.drop_succ_cons, List.drop_zero, List.map_cons, List.map_nil, Act.put, List.setIfInBounds_toArray, List.set_cons_succ, List.set_cons_zero]
                repeat (go_big_quiet_step (fail))
                refine wpQuiet_nil ?_
                refine lex_act rfl rfl (fun K hK => ?_)
                go_simp
                refine hK _ _ (ActLeft.keep rfl fun h => ⟨heap_old h.1 _, heap_old h.2 _⟩) ?_
                clear hK K
                refine lex_act rfl rfl (fun K hK => ?_)
                refine wp_append_mine (.tmp 74) (.tmp 82) 22 rfl elem_u8 rfl rfl (HP1.out.own.alloc _) (HP1.out.base_le) (B := wr.heap.size + 1) (ys := [UInt8.ofNat (b >>> (8 * kk))].map bv) (RV.eq_cells (be_val b (8 * kk)) (rv_byte wr.drew _)) (one_bytes _) (small_len HLN.out) (small_bytes HLN.out) ?_
                intro v7 w7 hg7 ho7
                have HP2 := Lib.hid (HP1.out.push hg7 ho7)
                have HD2 := Lib.hid (HD.out.drew.call HP2.out.below)
                obtain ⟨na, nc, rfl⟩ := own_form HP2.out.own
                clear hg7 ho7
                refine hK _ _ (ActLeft.keep rfl fun h => ⟨HD2.out.at 2 q7 _ rfl, HD2.out.at 1 q5 _ rfl⟩) ?_
                clear hK K
                refine lex_blind 1 (by kernel_rfl) ?_
                simp only [List.take_succ_cons, List.take_zero, List.drop_succ_cons, List.drop_zero, List.map_cons, List.map_nil, Act.put, List.setIfInBounds_toArray, List.set_cons_succ, List.set_cons_zero]
                repeat (go_big_quiet_step (fail))
                refine wpQuiet_nil ?_
                refine lex_act rfl rfl (fun K hK => ?_)
                refine wp_store_upd 22 (.tmp 84) (.tmp 83) rfl q7 i (.slice na (M ++ [UInt8.ofNat (b >>> (8 * kk))]).length nc) rfl rfl _ _ (HD2.out.at 2 q7 _ rfl) info_sl (HSZ7.out _ rfl) (one_sl _ _ _) rfl ?_
                intro w8 hu8
                rw [arr_set2 HTS.out i hi2 _ rfl] at hu8
                replace hu8 := Lib.hid hu8
                refine hK _ _ (ActLeft.last rfl rfl) ?_
                clear hK K
                refine lex_nil ?_
                have hN : DvT w q4 q5 q7 S2 N2 T vs B i (L ++ [0] ++ (be 8 b).take (8 - kk)) w8 := by
                  have tf := set_facts HTS.out i hi2 rfl (v := .slice na (M ++ [UInt8.ofNat (b >>> (8 * kk))]).length nc)
                  rw [ET.out]
                  exact ⟨_, na, nc, tf.1, tf.2.1, fun j hj => (tf.2.2 j hj).trans (HTO.out j hj), own_past HP2.out.own fun bb h1 h2 => hu8.out.other bb (by have := HQ7.out; omega), HD2.out.put 2 q7 rfl hu8.out⟩
                have HN := Lib.hid hN
                clear hN f7 f5 ne hu8 HP1 HP2 HD HD2
                go_wp2_with fail
                go_roundg kk
                case measure => omega
                case rel => exact ⟨by omega, by go_num, HN.out⟩
    · obtain rfl : i = 2 := by omega
      clear hi2 hi
      obtain ⟨sa, na, va, a1, a2, a3, a4, a5, ⟨xa, xl, xc, rfl⟩, a7⟩ := HR.out.done 0 (by omega)
      obtain ⟨sb, nb, vb, b1, b2, b3, b4, b5, ⟨ya, yl, yc, rfl⟩, b7⟩ := HR.out.done 1 (by omega)
      have c40 : wr.cell? ⟨q4, 0, none⟩ = some (.string sa) := by rw [cell_of_row _ _ _ _ _ _ (HR.out.hb.at 0 q4 _ rfl)]; exact a1
      have c41 : wr.cell? ⟨q4, 1, none⟩ = some (.string sb) := by rw [cell_of_row _ _ _ _ _ _ (HR.out.hb.at 0 q4 _ rfl)]; exact b1
      have c50 : wr.cell? ⟨q5, 0, none⟩ = some (.int .i64 (na : Int)) := by rw [cell_of_row _ _ _ _ _ _ (HR.out.hb.at 1 q5 _ rfl)]; exact a3
      have c51 : wr.cell? ⟨q5, 1, none⟩ = some (.int .i64 (nb : Int)) := by rw [cell_of_row _ _ _ _ _ _ (HR.out.hb.at 1 q5 _ rfl)]; exact b3
      have c70 : wr.cell? ⟨q7, 0, none⟩ = some (.slice xa xl xc) := by rw [cell_of_row _ _ _ _ _ _ (HR.out.hb.at 2 q7 _ rfl)]; exact a5
      have c71 : wr.cell? ⟨q7, 1, none⟩ = some (.slice ya yl yc) := by rw [cell_of_row _ _ _ _ _ _ (HR.out.hb.at 2 q7 _ rfl)]; exact b5
      have A7 := Lib.hid a7
      have B7 := Lib.hid b7
      have hti := told_inj (s := sa.data.toList) (t := sb.data.toList) a4 b4
      have HW := Lib.hid HR.out.hb
      clear a1 a2 a3 a5 a7 b1 b2 b3 b5 b7
      by_cases hs : sa = sb
      · subst hs
        by_cases hn : na = nb
        · subst hn
          have HE := Lib.hid (show (told sa.data.toList na == told sa.data.toList na) = true by simp)
          clear hti a4 b4
          go_wp2_with (first
            | (go_at_call 21; refine (eqBytes_calls _ _ _ _ _ (HW.out.rdm A7.out) (HW.out.rdm B7.out)).mono ?_; rintro e w12 ⟨rfl, rfl⟩; rw [HE.out])
            | (go_at_call 9; refine (works3_calls _ HW.out.tab).mono ?_; rintro e w13 ⟨rfl, hb13⟩; have HX := Lib.hid (HW.out.calls hb13); clear hb13))
          go_ret
          exact ⟨rfl, HX.out.bel⟩
        · have hb2 : ((na : Int) == (nb : Int)) = false := by rw [beq_eq_false_iff_ne]; omega
          have hb3 : ¬ (na : Int) = (nb : Int) := by omega
          have HE := Lib.hid (show (told sa.data.toList na == told sa.data.toList nb) = false by rw [beq_eq_false_iff_ne]; exact fun e => hn (hti.1 e).2)
          clear hti a4 b4
          go_wp2_with (first
            | (go_at_call 21; refine (eqBytes_calls _ _ _ _ _ (HW.out.rdm A7.out) (HW.out.rdm B7.out)).mono ?_; rintro e w12 ⟨rfl, rfl⟩; rw [HE.out])
            | (go_at_call 9; refine (works3_calls _ HW.out.tab).mono ?_; rintro e w13 ⟨rfl, hb13⟩; have HX := Lib.hid (HW.out.calls hb13); clear hb13))
          go_ret
          exact ⟨rfl, HX.out.bel⟩
      · skip
        have hl : ¬ sa.data.toList = sb.data.toList := fun e => hs (by
          have := Array.toList_inj.1 e
          cases sa; cases sb; simp only at this; rw [this])
        have hb2 : (sa.toList == sb.toList) = false := by rw [ByteArray.toList_eq, ByteArray.toList_eq, beq_eq_false_iff_ne]; exact hl
        have hb3 : ¬ sa.toList = sb.toList := by rw [ByteArray.toList_eq, ByteArray.toList_eq]; exact hl
        have HE := Lib.hid (show (told sa.data.toList na == told sb.data.toList nb) = false by rw [beq_eq_false_iff_ne]; exact fun e => hl (hti.1 e).1)
        clear hti a4 b4 hl
        go_wp2_with (first
          | (go_at_call 21; refine (eqBytes_calls _ _ _ _ _ (HW.out.rdm A7.out) (HW.out.rdm B7.out)).mono ?_; rintro e w12 ⟨rfl, rfl⟩; rw [HE.out])
          | (go_at_call 9; refine (works3_calls _ HW.out.tab).mono ?_; rintro e w13 ⟨rfl, hb13⟩; have HX := Lib.hid (HW.out.calls hb13); clear hb13))
        go_ret
        exact ⟨rfl, HX.out.bel⟩
end Go.Proofs.YtlgaikknodoilaaDoor.Sh
