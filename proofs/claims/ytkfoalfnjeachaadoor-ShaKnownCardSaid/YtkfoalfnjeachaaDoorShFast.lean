/-
  SHA-256 over plain numbers, so that Lean's kernel reckons it fast; and that it is the plain one of ShSpec.
-/
import Derived.Test.YtkfoalfnjeachaaDoorShSpec
import Derived.KernelRfl
namespace Go.Proofs.YtkfoalfnjeachaaDoor.Sh

/-- f of n, n reckoned first. -/
noncomputable def force (n : Nat) (f : Nat → Nat) : Nat := Nat.rec (f 0) (fun k _ => f (Nat.succ k)) n
theorem force_eq (n : Nat) (f : Nat → Nat) : force n f = f n := by cases n <;> rfl

/-- Eight words in one number. -/
def pack (a b c d e f g h : Nat) : Nat :=
  Nat.add (Nat.mul (Nat.add (Nat.mul (Nat.add (Nat.mul (Nat.add (Nat.mul (Nat.add (Nat.mul (Nat.add (Nat.mul (Nat.add (Nat.mul a 4294967296) b) 4294967296) c) 4294967296) d) 4294967296) e) 4294967296) f) 4294967296) g) 4294967296) h
def pk (v : V8) : Nat := pack v.a.toNat v.b.toNat v.c.toNat v.d.toNat v.e.toNat v.f.toNat v.g.toNat v.h.toNat

def nt (e f g h kw y : Nat) : Nat := Nat.add (Nat.add (Nat.add h (Nat.xor (Nat.xor (Nat.shiftRight y 6) (Nat.shiftRight y 11)) (Nat.shiftRight y 25))) (Nat.xor g (Nat.land e (Nat.xor f g)))) kw
def nu (a b c z : Nat) : Nat := Nat.add (Nat.xor (Nat.xor (Nat.shiftRight z 2) (Nat.shiftRight z 13)) (Nat.shiftRight z 22)) (Nat.lor (Nat.land a b) (Nat.land c (Nat.lor a b)))

/-- The rounds: from the sums of constants and words; the eight words' sums with the ones ahead, packed. -/
noncomputable def nrounds (A B C D E F G H : Nat) (l : List Nat) : Nat → Nat → Nat → Nat → Nat → Nat → Nat → Nat → Nat :=
  List.rec (motive := fun _ => Nat → Nat → Nat → Nat → Nat → Nat → Nat → Nat → Nat)
    (fun a b c d e f g h =>
      pack (Nat.mod (Nat.add A a) 4294967296) (Nat.mod (Nat.add B b) 4294967296) (Nat.mod (Nat.add C c) 4294967296) (Nat.mod (Nat.add D d) 4294967296)
        (Nat.mod (Nat.add E e) 4294967296) (Nat.mod (Nat.add F f) 4294967296) (Nat.mod (Nat.add G g) 4294967296) (Nat.mod (Nat.add H h) 4294967296))
    (fun kw _ ih a b c d e f g h =>
      (fun t => ih (Nat.mod (Nat.add t (nu a b c (Nat.mul a 4294967297))) 4294967296) a b c (Nat.mod (Nat.add d t) 4294967296) e f g) (nt e f g h kw (Nat.mul e 4294967297))) l

/-- One block behind a packed state. -/
noncomputable def ncomp (l : List Nat) (S : Nat) : Nat :=
  (fun h S => (fun g S => (fun f S => (fun e S => (fun d S => (fun c S => (fun b a => nrounds a b c d e f g h l a b c d e f g h)
    (Nat.mod S 4294967296) (Nat.div S 4294967296)) (Nat.mod S 4294967296) (Nat.div S 4294967296)) (Nat.mod S 4294967296) (Nat.div S 4294967296)) (Nat.mod S 4294967296) (Nat.div S 4294967296))
    (Nat.mod S 4294967296) (Nat.div S 4294967296)) (Nat.mod S 4294967296) (Nat.div S 4294967296)) (Nat.mod S 4294967296) (Nat.div S 4294967296)

/-- n blocks, all alike. -/
noncomputable def niter (l : List Nat) (n : Nat) : Nat → Nat :=
  Nat.rec (motive := fun _ => Nat → Nat) (fun S => S) (fun _ ih S => force (ncomp l S) ih) n

/-! What these are. -/
theorem of_xor (x y : Nat) : BitVec.ofNat 32 (Nat.xor x y) = BitVec.ofNat 32 x ^^^ BitVec.ofNat 32 y := by
  apply BitVec.eq_of_getLsbD_eq
  intro i hi
  rw [BitVec.getLsbD_xor, BitVec.getLsbD_ofNat, BitVec.getLsbD_ofNat, BitVec.getLsbD_ofNat]
  rw [show Nat.xor x y = x ^^^ y from rfl, Nat.testBit_xor]
  simp [hi]
theorem of_and (x y : Nat) : BitVec.ofNat 32 (Nat.land x y) = BitVec.ofNat 32 x &&& BitVec.ofNat 32 y := by
  apply BitVec.eq_of_getLsbD_eq
  intro i hi
  rw [BitVec.getLsbD_and, BitVec.getLsbD_ofNat, BitVec.getLsbD_ofNat, BitVec.getLsbD_ofNat]
  rw [show Nat.land x y = x &&& y from rfl, Nat.testBit_and]
  simp [hi]
theorem of_or (x y : Nat) : BitVec.ofNat 32 (Nat.lor x y) = BitVec.ofNat 32 x ||| BitVec.ofNat 32 y := by
  apply BitVec.eq_of_getLsbD_eq
  intro i hi
  rw [BitVec.getLsbD_or, BitVec.getLsbD_ofNat, BitVec.getLsbD_ofNat, BitVec.getLsbD_ofNat]
  rw [show Nat.lor x y = x ||| y from rfl, Nat.testBit_or]
  simp [hi]
theorem of_add (x y : Nat) : BitVec.ofNat 32 (Nat.add x y) = BitVec.ofNat 32 x + BitVec.ofNat 32 y := BitVec.ofNat_add x y
theorem of_toNat (x : W) : BitVec.ofNat 32 x.toNat = x := by simp
theorem of_shr (x : W) (n : Nat) : BitVec.ofNat 32 (Nat.shiftRight x.toNat n) = x >>> n := by
  apply BitVec.eq_of_toNat_eq
  rw [BitVec.toNat_ofNat, BitVec.toNat_ushiftRight, show Nat.shiftRight x.toNat n = x.toNat >>> n from rfl]
  refine Nat.mod_eq_of_lt ?_
  rw [Nat.shiftRight_eq_div_pow]
  exact Nat.lt_of_le_of_lt (Nat.div_le_self _ _) x.isLt
theorem of_rot (x : W) (n : Nat) (h0 : 0 < n) (hn : n < 32) : BitVec.ofNat 32 (Nat.shiftRight (Nat.mul x.toNat 4294967297) n) = rotr x n := by
  have e : Nat.mul x.toNat 4294967297 = x.toNat <<< 32 ||| x.toNat := by
    rw [← Nat.shiftLeft_add_eq_or_of_lt x.isLt, Nat.shiftLeft_eq]
    show x.toNat * 4294967297 = _
    omega
  apply BitVec.eq_of_getLsbD_eq
  intro i hi
  unfold rotr
  rw [BitVec.getLsbD_or, BitVec.getLsbD_ushiftRight, BitVec.getLsbD_shiftLeft, BitVec.getLsbD_ofNat, e, show Nat.shiftRight (x.toNat <<< 32 ||| x.toNat) n = (x.toNat <<< 32 ||| x.toNat) >>> n from rfl,
    Nat.testBit_shiftRight, Nat.testBit_or, Nat.testBit_shiftLeft, BitVec.getLsbD, BitVec.getLsbD]
  by_cases h : n + i < 32
  · have h1 : ¬ (n + i ≥ 32) := by omega
    have h2 : i < 32 - n := by omega
    simp [hi, h1, h2]
  · have h1 : n + i ≥ 32 := by omega
    have h2 : ¬ (i < 32 - n) := by omega
    have h3 : i - (32 - n) = n + i - 32 := by omega
    have h4 : x.toNat.testBit (n + i) = false := Nat.testBit_lt_two_pow (Nat.lt_of_lt_of_le x.isLt (Nat.pow_le_pow_right (by decide) h1))
    simp [hi, h1, h2, h3, h4]

/-- The rounds over a list of sums. -/
def rl (v : V8) : List Nat → V8
  | [] => v
  | kw :: l => rl (rnd v 0 (BitVec.ofNat 32 kw)) l

theorem of_nt (v : V8) (kw : Nat) : BitVec.ofNat 32 (nt v.e.toNat v.f.toNat v.g.toNat v.h.toNat kw (Nat.mul v.e.toNat 4294967297)) = v.h + bs1 v.e + ch v.e v.f v.g + 0 + BitVec.ofNat 32 kw := by
  unfold nt bs1 ch
  simp only [of_add, of_xor, of_and, of_toNat]
  rw [of_rot _ 6 (by decide) (by decide), of_rot _ 11 (by decide) (by decide), of_rot _ 25 (by decide) (by decide), show (0 : W) = 0#32 from rfl, BitVec.add_zero]
theorem of_nu (v : V8) : BitVec.ofNat 32 (nu v.a.toNat v.b.toNat v.c.toNat (Nat.mul v.a.toNat 4294967297)) = bs0 v.a + maj v.a v.b v.c := by
  unfold nu bs0 maj
  simp only [of_add, of_xor, of_and, of_or, of_toNat]
  rw [of_rot _ 2 (by decide) (by decide), of_rot _ 13 (by decide) (by decide), of_rot _ 22 (by decide) (by decide)]
theorem mod_of (x : Nat) : Nat.mod x 4294967296 = (BitVec.ofNat 32 x).toNat := (BitVec.toNat_ofNat x 32).symm

theorem nrounds_eq (v0 : V8) (l : List Nat) : ∀ v : V8, nrounds v0.a.toNat v0.b.toNat v0.c.toNat v0.d.toNat v0.e.toNat v0.f.toNat v0.g.toNat v0.h.toNat l v.a.toNat v.b.toNat v.c.toNat v.d.toNat v.e.toNat v.f.toNat v.g.toNat v.h.toNat = pk (v0.add (rl v l)) := by
  induction l with
  | nil =>
    intro v
    show pack _ _ _ _ _ _ _ _ = _
    simp only [mod_of, of_add, of_toNat]
    rfl
  | cons kw l ih =>
    intro v
    have h := ih (rnd v 0 (BitVec.ofNat 32 kw))
    have ea : (rnd v 0 (BitVec.ofNat 32 kw)).a.toNat = Nat.mod (Nat.add (nt v.e.toNat v.f.toNat v.g.toNat v.h.toNat kw (Nat.mul v.e.toNat 4294967297)) (nu v.a.toNat v.b.toNat v.c.toNat (Nat.mul v.a.toNat 4294967297))) 4294967296 := by
      rw [mod_of, of_add, of_nt, of_nu]; rfl
    have ee : (rnd v 0 (BitVec.ofNat 32 kw)).e.toNat = Nat.mod (Nat.add v.d.toNat (nt v.e.toNat v.f.toNat v.g.toNat v.h.toNat kw (Nat.mul v.e.toNat 4294967297))) 4294967296 := by
      rw [mod_of, of_add, of_nt, of_toNat]; rfl
    rw [ea, ee] at h
    exact h

theorem pack_div (x y : Nat) (h : y < 4294967296) : Nat.div (Nat.add (Nat.mul x 4294967296) y) 4294967296 = x := by
  show (x * 4294967296 + y) / 4294967296 = x; omega
theorem pack_mod (x y : Nat) (h : y < 4294967296) : Nat.mod (Nat.add (Nat.mul x 4294967296) y) 4294967296 = y := by
  show (x * 4294967296 + y) % 4294967296 = y; omega
theorem ncomp_eq (l : List Nat) (v : V8) : ncomp l (pk v) = pk (v.add (rl v l)) := by
  have hb := v.b.isLt
  have hc := v.c.isLt
  have hd := v.d.isLt
  have he := v.e.isLt
  have hf := v.f.isLt
  have hg := v.g.isLt
  have hh := v.h.isLt
  unfold ncomp pk pack
  simp only [pack_div _ _ hh, pack_mod _ _ hh, pack_div _ _ hg, pack_mod _ _ hg, pack_div _ _ hf, pack_mod _ _ hf, pack_div _ _ he, pack_mod _ _ he, pack_div _ _ hd, pack_mod _ _ hd, pack_div _ _ hc, pack_mod _ _ hc, pack_div _ _ hb, pack_mod _ _ hb]
  exact nrounds_eq v l v
/-- The words, as they are wanted, each with its constant. -/
def nss0 (x y : Nat) : Nat := Nat.xor (Nat.xor (Nat.shiftRight y 7) (Nat.shiftRight y 18)) (Nat.shiftRight x 3)
def nss1 (x y : Nat) : Nat := Nat.xor (Nat.xor (Nat.shiftRight y 17) (Nat.shiftRight y 19)) (Nat.shiftRight x 10)
noncomputable def nsched (l : List Nat) : Nat → Nat → Nat → Nat → Nat → Nat → Nat → Nat → Nat → Nat → Nat → Nat → Nat → Nat → Nat → Nat → List Nat :=
  List.rec (motive := fun _ => Nat → Nat → Nat → Nat → Nat → Nat → Nat → Nat → Nat → Nat → Nat → Nat → Nat → Nat → Nat → Nat → List Nat) (fun _ _ _ _ _ _ _ _ _ _ _ _ _ _ _ _ => [])
    (fun k _ ih x0 x1 x2 x3 x4 x5 x6 x7 x8 x9 x10 x11 x12 x13 x14 x15 => Nat.add k x0 :: ih x1 x2 x3 x4 x5 x6 x7 x8 x9 x10 x11 x12 x13 x14 x15 (Nat.mod (Nat.add (Nat.add (Nat.add (nss1 x14 (Nat.mul x14 4294967297)) x9) (nss0 x1 (Nat.mul x1 4294967297))) x0) 4294967296)) l

theorem of_nss0 (x : W) : BitVec.ofNat 32 (nss0 x.toNat (Nat.mul x.toNat 4294967297)) = ss0 x := by
  unfold nss0 ss0
  simp only [of_xor, of_shr]
  rw [of_rot _ 7 (by decide) (by decide), of_rot _ 18 (by decide) (by decide)]
theorem of_nss1 (x : W) : BitVec.ofNat 32 (nss1 x.toNat (Nat.mul x.toNat 4294967297)) = ss1 x := by
  unfold nss1 ss1
  simp only [of_xor, of_shr]
  rw [of_rot _ 17 (by decide) (by decide), of_rot _ 19 (by decide) (by decide)]

/-- The i-th word, however far. -/
def wseq (b : Bs) (i : Nat) : W := (sched b (i + 1)).getD i 0
theorem wseq_get (b : Bs) (i n : Nat) (h : i < n) : (sched b n).getD i 0 = wseq b i := sched_get b (i + 1) n i (by omega) (by omega)
theorem wseq_next (b : Bs) (i : Nat) : wseq b i = next b (sched b i) i := by
  unfold wseq
  rw [sched, List.getD_eq_getElem?_getD, List.getElem?_append_right (by rw [length_sched]; omega), length_sched, Nat.sub_self]
  rfl
theorem wseq_low (b : Bs) (i : Nat) (h : i < 16) : wseq b i = word b i := by
  rw [wseq_next, next, if_pos h]
theorem wseq_high (b : Bs) (i : Nat) : wseq b (i + 16) = ss1 (wseq b (i + 14)) + wseq b (i + 9) + ss0 (wseq b (i + 1)) + wseq b i := by
  rw [wseq_next, next, if_neg (by omega), show i + 16 - 2 = i + 14 by omega, show i + 16 - 7 = i + 9 by omega, show i + 16 - 15 = i + 1 by omega, show i + 16 - 16 = i by omega,
    wseq_get b _ _ (by omega), wseq_get b _ _ (by omega), wseq_get b _ _ (by omega), wseq_get b _ _ (by omega)]
theorem wseq_nat (b : Bs) (i : Nat) : Nat.mod (Nat.add (Nat.add (Nat.add (nss1 (wseq b (i + 14)).toNat (Nat.mul (wseq b (i + 14)).toNat 4294967297)) (wseq b (i + 9)).toNat) (nss0 (wseq b (i + 1)).toNat (Nat.mul (wseq b (i + 1)).toNat 4294967297))) (wseq b i).toNat) 4294967296 = (wseq b (i + 16)).toNat := by
  rw [mod_of]
  simp only [of_add, of_nss0, of_nss1, of_toNat]
  rw [wseq_high]

theorem rnd_sum (v : V8) (k w : W) : rnd v 0 (BitVec.ofNat 32 (Nat.add k.toNat w.toNat)) = rnd v k w := by
  have e : v.h + bs1 v.e + ch v.e v.f v.g + 0 + (k + w) = v.h + bs1 v.e + ch v.e v.f v.g + k + w := by
    rw [show (0 : W) = 0#32 from rfl, BitVec.add_zero, BitVec.add_assoc _ k w]
  unfold rnd
  rw [of_add, of_toNat, of_toNat, e]

theorem nsched_cons (k : Nat) (l : List Nat) (x0 x1 x2 x3 x4 x5 x6 x7 x8 x9 x10 x11 x12 x13 x14 x15 : Nat) : nsched (k :: l) x0 x1 x2 x3 x4 x5 x6 x7 x8 x9 x10 x11 x12 x13 x14 x15 = Nat.add k x0 :: nsched l x1 x2 x3 x4 x5 x6 x7 x8 x9 x10 x11 x12 x13 x14 x15 (Nat.mod (Nat.add (Nat.add (Nat.add (nss1 x14 (Nat.mul x14 4294967297)) x9) (nss0 x1 (Nat.mul x1 4294967297))) x0) 4294967296) := rfl
theorem rl_cons (v : V8) (kw : Nat) (l : List Nat) : rl v (kw :: l) = rl (rnd v 0 (BitVec.ofNat 32 kw)) l := rfl

theorem st_nsched (b : Bs) (v : V8) : ∀ (l : List W) (i : Nat), i + l.length = 64 → ks.drop i = l →
    rl (st v b i) (nsched (l.map (·.toNat)) (wseq b (i + 0)).toNat (wseq b (i + 1)).toNat (wseq b (i + 2)).toNat (wseq b (i + 3)).toNat (wseq b (i + 4)).toNat (wseq b (i + 5)).toNat (wseq b (i + 6)).toNat (wseq b (i + 7)).toNat (wseq b (i + 8)).toNat (wseq b (i + 9)).toNat (wseq b (i + 10)).toNat (wseq b (i + 11)).toNat (wseq b (i + 12)).toNat (wseq b (i + 13)).toNat (wseq b (i + 14)).toNat (wseq b (i + 15)).toNat) = st v b 64 := by
  intro l
  induction l with
  | nil =>
    intro i hi _
    obtain rfl : i = 64 := by simpa using hi
    rfl
  | cons k l ih =>
    intro i hi hk
    have hi' : i < 64 := by simp at hi; omega
    have hk0 : ks.getD i 0 = k := by
      rw [List.getD_eq_getElem?_getD]
      have : (ks.drop i)[0]? = some k := by rw [hk]; rfl
      rw [List.getElem?_drop] at this
      rw [Nat.add_zero] at this
      rw [this]
      rfl
    have hk1 : ks.drop (i + 1) = l := by
      have : (ks.drop i).drop 1 = l := by rw [hk]; rfl
      rwa [List.drop_drop] at this
    have h := ih (i + 1) (by simp at hi; omega) hk1
    simp only [Nat.add_assoc, Nat.reduceAdd] at h
    rw [List.map_cons, nsched_cons, rl_cons, Nat.add_zero, wseq_nat, rnd_sum]
    have hs : st v b (i + 1) = rnd (st v b i) k (wseq b i) := by rw [st, hk0, wseq_get b i 64 hi']
    rw [← hs]
    exact h

def nword (b : Bs) (i : Nat) : Nat :=
  Nat.mod (Nat.lor (Nat.lor (Nat.lor (Nat.shiftLeft (b.getD (4 * i) 0).toNat 24) (Nat.shiftLeft (b.getD (4 * i + 1) 0).toNat 16)) (Nat.shiftLeft (b.getD (4 * i + 2) 0).toNat 8)) (b.getD (4 * i + 3) 0).toNat) 4294967296
theorem of_shl (x : Nat) (n : Nat) : BitVec.ofNat 32 (Nat.shiftLeft x n) = BitVec.ofNat 32 x <<< n := by
  apply BitVec.eq_of_getLsbD_eq
  intro i hi
  rw [BitVec.getLsbD_shiftLeft, BitVec.getLsbD_ofNat, BitVec.getLsbD_ofNat, show Nat.shiftLeft x n = x <<< n from rfl, Nat.testBit_shiftLeft]
  by_cases h : i < n
  · have h1 : ¬ (i ≥ n) := by omega
    simp [hi, h]
    intro h2; omega
  · have h1 : i ≥ n := by omega
    have h2 : i - n < 32 := by omega
    simp [hi, h, h1, h2]
theorem nword_eq (b : Bs) (i : Nat) : nword b i = (word b i).toNat := by
  unfold nword word zx
  rw [mod_of]
  simp only [of_or, of_shl]

def kN : List Nat := ks.map (·.toNat)
/-- Four bytes as a word, reckoned; and the rest. -/
noncomputable def take4 (l : Bs) (f : Nat → Bs → Nat) : Nat := force (nword l 0) (fun x => f x (l.drop 4))
theorem take4_eq (l : Bs) (f : Nat → Bs → Nat) : take4 l f = f (word l 0).toNat (l.drop 4) := by
  unfold take4
  rw [force_eq, nword_eq]
theorem word_drop (b : Bs) (n i : Nat) : word (b.drop (4 * n)) i = word b (n + i) := by
  unfold word
  simp only [List.getD_eq_getElem?_getD, List.getElem?_drop]
  rw [show 4 * n + (4 * i) = 4 * (n + i) by omega, show 4 * n + (4 * i + 1) = 4 * (n + i) + 1 by omega, show 4 * n + (4 * i + 2) = 4 * (n + i) + 2 by omega, show 4 * n + (4 * i + 3) = 4 * (n + i) + 3 by omega]
/-- A block of bytes behind a packed state. -/
noncomputable def nblock (b : Bs) (S : Nat) : Nat := take4 b fun x0 l => take4 l fun x1 l => take4 l fun x2 l => take4 l fun x3 l => take4 l fun x4 l => take4 l fun x5 l => take4 l fun x6 l => take4 l fun x7 l => take4 l fun x8 l => take4 l fun x9 l => take4 l fun x10 l => take4 l fun x11 l => take4 l fun x12 l => take4 l fun x13 l => take4 l fun x14 l => take4 l fun x15 _ => ncomp (nsched kN x0 x1 x2 x3 x4 x5 x6 x7 x8 x9 x10 x11 x12 x13 x14 x15) S
theorem nblock_eq (b : Bs) (v : V8) : nblock b (pk v) = pk (comp v b) := by
  have h := st_nsched b v ks 0 rfl rfl
  simp only [Nat.zero_add] at h
  unfold nblock
  simp only [take4_eq, List.drop_drop, Nat.reduceAdd]
  rw [show word (b.drop 4) 0 = word b (1 + 0) from word_drop b 1 0, show word (b.drop 8) 0 = word b (2 + 0) from word_drop b 2 0, show word (b.drop 12) 0 = word b (3 + 0) from word_drop b 3 0, show word (b.drop 16) 0 = word b (4 + 0) from word_drop b 4 0, show word (b.drop 20) 0 = word b (5 + 0) from word_drop b 5 0, show word (b.drop 24) 0 = word b (6 + 0) from word_drop b 6 0, show word (b.drop 28) 0 = word b (7 + 0) from word_drop b 7 0, show word (b.drop 32) 0 = word b (8 + 0) from word_drop b 8 0, show word (b.drop 36) 0 = word b (9 + 0) from word_drop b 9 0, show word (b.drop 40) 0 = word b (10 + 0) from word_drop b 10 0, show word (b.drop 44) 0 = word b (11 + 0) from word_drop b 11 0, show word (b.drop 48) 0 = word b (12 + 0) from word_drop b 12 0, show word (b.drop 52) 0 = word b (13 + 0) from word_drop b 13 0, show word (b.drop 56) 0 = word b (14 + 0) from word_drop b 14 0, show word (b.drop 60) 0 = word b (15 + 0) from word_drop b 15 0]
  simp only [Nat.add_zero]
  rw [ncomp_eq, comp, ← h]
  simp only [wseq_low b 0 (by decide), wseq_low b 1 (by decide), wseq_low b 2 (by decide), wseq_low b 3 (by decide), wseq_low b 4 (by decide), wseq_low b 5 (by decide), wseq_low b 6 (by decide), wseq_low b 7 (by decide), wseq_low b 8 (by decide), wseq_low b 9 (by decide), wseq_low b 10 (by decide), wseq_low b 11 (by decide), wseq_low b 12 (by decide), wseq_low b 13 (by decide), wseq_low b 14 (by decide), wseq_low b 15 (by decide)]
  rfl

noncomputable def nabsorb (m : Bs) (n : Nat) : Nat := Nat.rec (pk first) (fun k ih => force ih (nblock ((m.drop (64 * k)).take 64))) n
theorem nabsorb_eq (m : Bs) (n : Nat) : nabsorb m n = pk (absorb m n) := by
  induction n with
  | zero => rfl
  | succ n ih =>
    show force (nabsorb m n) _ = _
    rw [force_eq, ih, nblock_eq]
    rfl

/-- Many blocks alike. -/
def many (b : Bs) (v : V8) : Nat → V8
  | 0 => v
  | n + 1 => many b (comp v b) n
theorem niter_eq (b : Bs) (l : List Nat) (hl : ∀ S, ncomp l S = nblock b S) : ∀ (n : Nat) (v : V8), niter l n (pk v) = pk (many b v n) := by
  intro n
  induction n with
  | zero => intro v; rfl
  | succ n ih =>
    intro v
    show force (ncomp l (pk v)) (niter l n) = _
    have h : ncomp l (pk v) = pk (comp v b) := by rw [hl, nblock_eq]
    rw [force_eq, h, ih]
    rfl
end Go.Proofs.YtkfoalfnjeachaaDoor.Sh
