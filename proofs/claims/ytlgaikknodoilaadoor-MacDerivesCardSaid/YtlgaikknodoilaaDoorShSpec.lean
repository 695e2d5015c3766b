/-
  SHA-256, plainly, over 32-bit words and lists of bytes: definitions, and what follows from them. No program stands here.
-/
namespace Go.Proofs.YtlgaikknodoilaaDoor.Sh
set_option linter.unusedVariables false
set_option linter.unusedSimpArgs false

abbrev W := BitVec 32
abbrev Bs := List UInt8

def rotr (x : W) (n : Nat) : W := (x >>> n) ||| (x <<< (32 - n))
def bs0 (x : W) : W := rotr x 2 ^^^ rotr x 13 ^^^ rotr x 22
def bs1 (x : W) : W := rotr x 6 ^^^ rotr x 11 ^^^ rotr x 25
def ss0 (x : W) : W := rotr x 7 ^^^ rotr x 18 ^^^ (x >>> 3)
def ss1 (x : W) : W := rotr x 17 ^^^ rotr x 19 ^^^ (x >>> 10)
def ch (e f g : W) : W := g ^^^ (e &&& (f ^^^ g))
def maj (a b c : W) : W := (a &&& b) ||| (c &&& (a ||| b))

theorem ch_alt (e f g : W) : (e &&& f) ^^^ (~~~e &&& g) = ch e f g := by
  unfold ch
  apply BitVec.eq_of_getLsbD_eq
  intro i hi
  simp only [BitVec.getLsbD_xor, BitVec.getLsbD_and, BitVec.getLsbD_not, hi, decide_true, Bool.true_and]
  cases e.getLsbD i <;> cases f.getLsbD i <;> cases g.getLsbD i <;> rfl
theorem maj_alt (a b c : W) : (a &&& b) ^^^ (a &&& c) ^^^ (b &&& c) = maj a b c := by
  unfold maj
  apply BitVec.eq_of_getLsbD_eq
  intro i hi
  simp only [BitVec.getLsbD_xor, BitVec.getLsbD_and, BitVec.getLsbD_or]
  cases a.getLsbD i <;> cases b.getLsbD i <;> cases c.getLsbD i <;> rfl

structure V8 where
  a : W
  b : W
  c : W
  d : W
  e : W
  f : W
  g : W
  h : W

def V8.list (v : V8) : List W := [v.a, v.b, v.c, v.d, v.e, v.f, v.g, v.h]
def V8.zero : V8 := ⟨0, 0, 0, 0, 0, 0, 0, 0⟩
def V8.add (v x : V8) : V8 := ⟨v.a + x.a, v.b + x.b, v.c + x.c, v.d + x.d, v.e + x.e, v.f + x.f, v.g + x.g, v.h + x.h⟩
theorem V8.length_list (v : V8) : v.list.length = 8 := rfl

def first : V8 := ⟨1779033703#32, 3144134277#32, 1013904242#32, 2773480762#32, 1359893119#32, 2600822924#32, 528734635#32, 1541459225#32⟩

def ks : List W := [1116352408#32, 1899447441#32, 3049323471#32, 3921009573#32, 961987163#32, 1508970993#32, 2453635748#32, 2870763221#32,
  3624381080#32, 310598401#32, 607225278#32, 1426881987#32, 1925078388#32, 2162078206#32, 2614888103#32, 3248222580#32,
  3835390401#32, 4022224774#32, 264347078#32, 604807628#32, 770255983#32, 1249150122#32, 1555081692#32, 1996064986#32,
  2554220882#32, 2821834349#32, 2952996808#32, 3210313671#32, 3336571891#32, 3584528711#32, 113926993#32, 338241895#32,
  666307205#32, 773529912#32, 1294757372#32, 1396182291#32, 1695183700#32, 1986661051#32, 2177026350#32, 2456956037#32,
  2730485921#32, 2820302411#32, 3259730800#32, 3345764771#32, 3516065817#32, 3600352804#32, 4094571909#32, 275423344#32,
  430227734#32, 506948616#32, 659060556#32, 883997877#32, 958139571#32, 1322822218#32, 1537002063#32, 1747873779#32,
  1955562222#32, 2024104815#32, 2227730452#32, 2361852424#32, 2428436474#32, 2756734187#32, 3204031479#32, 3329325298#32]
theorem length_ks : ks.length = 64 := rfl

def rnd (v : V8) (k w : W) : V8 :=
  ⟨v.h + bs1 v.e + ch v.e v.f v.g + k + w + (bs0 v.a + maj v.a v.b v.c), v.a, v.b, v.c, v.d + (v.h + bs1 v.e + ch v.e v.f v.g + k + w), v.e, v.f, v.g⟩

/-- A byte as a word. -/
def zx (b : UInt8) : W := BitVec.ofNat 32 b.toNat
def word (b : Bs) (i : Nat) : W :=
  (zx (b.getD (4 * i) 0) <<< 24) ||| (zx (b.getD (4 * i + 1) 0) <<< 16) ||| (zx (b.getD (4 * i + 2) 0) <<< 8) ||| zx (b.getD (4 * i + 3) 0)
def next (b : Bs) (l : List W) (n : Nat) : W :=
  if n < 16 then word b n else ss1 (l.getD (n - 2) 0) + l.getD (n - 7) 0 + ss0 (l.getD (n - 15) 0) + l.getD (n - 16) 0
/-- The first n words of a block's sixty-four. -/
def sched (b : Bs) : Nat → List W
  | 0 => []
  | n + 1 => sched b n ++ [next b (sched b n) n]
theorem length_sched (b : Bs) (n : Nat) : (sched b n).length = n := by
  induction n with
  | zero => rfl
  | succ n ih => simp [sched, ih]
theorem sched_get (b : Bs) (n m i : Nat) (h : i < n) (hm : n ≤ m) : (sched b m).getD i 0 = (sched b n).getD i 0 := by
  induction m with
  | zero => omega
  | succ m ih =>
    rcases Nat.lt_or_ge m n with h1 | h1
    · have : n = m + 1 := by omega
      rw [this]
    · rw [← ih h1, sched]
      simp only [List.getD_eq_getElem?_getD]
      rw [List.getElem?_append_left (by rw [length_sched]; omega)]

/-- The eight words behind n rounds. -/
def st (v : V8) (b : Bs) : Nat → V8
  | 0 => v
  | n + 1 => rnd (st v b n) (ks.getD n 0) ((sched b 64).getD n 0)
def comp (v : V8) (b : Bs) : V8 := v.add (st v b 64)

/-- The eight words behind k blocks. -/
def absorb (m : Bs) : Nat → V8
  | 0 => first
  | k + 1 => comp (absorb m k) ((m.drop (64 * k)).take 64)

theorem absorb_append (m x : Bs) (k : Nat) (h : 64 * k ≤ m.length) : absorb (m ++ x) k = absorb m k := by
  induction k with
  | zero => rfl
  | succ k ih =>
    rw [absorb, absorb, ih (by omega), List.drop_append_of_le_length (by omega), List.take_append_of_le_length (by simp; omega)]

/-- The eight words behind all whole blocks, and what is left. -/
def state (m : Bs) : V8 := absorb m (m.length / 64)
def left (m : Bs) : Bs := m.drop (64 * (m.length / 64))
theorem length_left (m : Bs) : (left m).length = m.length % 64 := by unfold left; simp; omega
theorem state_short (m : Bs) (h : m.length < 64) : state m = first := by
  unfold state
  rw [Nat.div_eq_of_lt h]
  rfl
theorem left_short (m : Bs) (h : m.length < 64) : left m = m := by
  unfold left
  rw [Nat.div_eq_of_lt h]
  rfl

/-- A number in eight bytes, the highest first. -/
def len8 (n : Nat) : Bs := (List.range 8).map fun i => UInt8.ofNat (n >>> (56 - 8 * i))
def zeros (n : Nat) : Nat := (119 - n % 64) % 64
def padding (n : Nat) : Bs := 128 :: List.replicate (zeros n) 0 ++ len8 (8 * n)
def padded (m : Bs) : Bs := m ++ padding m.length
theorem length_len8 (n : Nat) : (len8 n).length = 8 := by simp [len8]
theorem length_padding (n : Nat) : (padding n).length = zeros n + 9 := by simp [padding, length_len8]
theorem length_padded (m : Bs) : (padded m).length = m.length + zeros m.length + 9 := by simp [padded, length_padding]; omega
theorem padded_whole (m : Bs) : (padded m).length % 64 = 0 := by rw [length_padded]; unfold zeros; omega

/-- A word's byte, the highest first. -/
def byteOf (x : W) (i : Nat) : UInt8 := UInt8.ofNat (x.toNat >>> (24 - 8 * (i % 4)))
def out (v : V8) : Bs := (List.range 32).map fun i => byteOf (v.list.getD (i / 4) 0) i
theorem length_out (v : V8) : (out v).length = 32 := by simp [out]
def sha (m : Bs) : Bs := out (state (padded m))
theorem length_sha (m : Bs) : (sha m).length = 32 := length_out _

end Go.Proofs.YtlgaikknodoilaaDoor.Sh
