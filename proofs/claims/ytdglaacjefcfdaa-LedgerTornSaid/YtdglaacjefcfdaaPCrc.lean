/- the plain law of the frame and its checksum: no program in sight -/
namespace Go.Proofs.Ytdglaacjefcfdaa.Fr
/-- one bit of the checksum's register. -/
def f1 (s : BitVec 32) : BitVec 32 := if s.getLsbD 0 then (s >>> 1) ^^^ 0xEDB88320#32 else s >>> 1

def fk : Nat → BitVec 32 → BitVec 32
  | 0, s => s
  | k + 1, s => fk k (f1 s)

theorem f1_bit (s : BitVec 32) (i : Nat) (hi : i < 32) : (f1 s).getLsbD i = ((s.getLsbD 0 && (0xEDB88320#32).getLsbD i) ^^ (s.getLsbD (1 + i))) := by
  unfold f1
  cases h : s.getLsbD 0 <;> simp [hi, Bool.xor_comm]

theorem f1_xor (a b : BitVec 32) : f1 (a ^^^ b) = f1 a ^^^ f1 b := by
  apply BitVec.eq_of_getLsbD_eq
  intro i hi
  rw [BitVec.getLsbD_xor, f1_bit _ _ hi, f1_bit _ _ hi, f1_bit _ _ hi, BitVec.getLsbD_xor, BitVec.getLsbD_xor]
  cases a.getLsbD 0 <;> cases b.getLsbD 0 <;> cases (0xEDB88320#32).getLsbD i <;> cases a.getLsbD (1 + i) <;> cases b.getLsbD (1 + i) <;> rfl

theorem f1_zero : f1 0#32 = 0#32 := by decide

theorem f1_inj (s : BitVec 32) (h : f1 s = 0#32) : s = 0#32 := by
  have hb : ∀ i, i < 32 → ((s.getLsbD 0 && (0xEDB88320#32).getLsbD i) ^^ (s.getLsbD (1 + i))) = false := by
    intro i hi
    rw [← f1_bit s i hi, h]; simp
  have h31 := hb 31 (by omega)
  have h0 : s.getLsbD 0 = false := by
    have : (0xEDB88320#32).getLsbD 31 = true := by decide
    rw [this] at h31
    simpa using h31
  apply BitVec.eq_of_getLsbD_eq
  intro i hi
  cases i with
  | zero => simpa using h0
  | succ j =>
    have := hb j (by omega)
    rw [h0] at this
    simpa [Nat.add_comm] using this

theorem fk_xor (k : Nat) : ∀ a b : BitVec 32, fk k (a ^^^ b) = fk k a ^^^ fk k b := by
  induction k with
  | zero => intro a b; rfl
  | succ k ih => intro a b; simp only [fk, f1_xor, ih]

theorem fk_zero (k : Nat) : fk k 0#32 = 0#32 := by
  induction k with
  | zero => rfl
  | succ k ih => simp only [fk, f1_zero, ih]

theorem fk_inj (k : Nat) : ∀ s : BitVec 32, fk k s = 0#32 → s = 0#32 := by
  induction k with
  | zero => intro s h; exact h
  | succ k ih => intro s h; exact f1_inj s (ih _ h)

theorem fk_add (a b : Nat) : ∀ s, fk (a + b) s = fk b (fk a s) := by
  induction a with
  | zero => intro s; simp [fk]
  | succ a ih => intro s; rw [Nat.succ_add]; simp only [fk, ih]

/-- a byte through the register. -/
def bs (s : BitVec 32) (c : BitVec 8) : BitVec 32 := fk 8 (s ^^^ c.setWidth 32)

def crcL (s : BitVec 32) (l : List (BitVec 8)) : BitVec 32 := l.foldl bs s

/-! the table's law -/
theorem fk_shift (k : Nat) : ∀ x : BitVec 32, (∀ i, i < k → x.getLsbD i = false) → fk k x = x >>> k := by
  induction k with
  | zero => intro x _; simp [fk]
  | succ k ih =>
    intro x h
    have h0 : x.getLsbD 0 = false := h 0 (by omega)
    have e : f1 x = x >>> 1 := by unfold f1; rw [h0]; rfl
    rw [fk, e, ih _ (by intro i hi; simpa [Nat.add_comm] using h (i + 1) (by omega))]
    apply BitVec.eq_of_getLsbD_eq
    intro i hi
    simp only [BitVec.getLsbD_ushiftRight]
    congr 1; omega

def mk (k : Nat) : BitVec 32 := BitVec.allOnes 32 >>> (32 - k)
theorem mk_bit (k i : Nat) (hk : k ≤ 32) (_hi : i < 32) : (mk k).getLsbD i = decide (i < k) := by
  unfold mk
  rw [BitVec.getLsbD_ushiftRight, BitVec.getLsbD_allOnes]
  by_cases h : i < k
  · simp only [h, decide_true, decide_eq_true_eq]; omega
  · simp only [h, decide_false, decide_eq_false_iff_not]; omega

theorem low_bits (x : BitVec 32) (k : Nat) (hk : k ≤ 32) : x = ((x >>> k) <<< k) ^^^ (x &&& mk k) := by
  apply BitVec.eq_of_getLsbD_eq
  intro i hi
  simp only [BitVec.getLsbD_xor, BitVec.getLsbD_shiftLeft, BitVec.getLsbD_ushiftRight, BitVec.getLsbD_and, mk_bit k i hk hi, hi, decide_true, Bool.true_and]
  by_cases h : i < k
  · simp [h]
  · have h3 : k + (i - k) = i := by omega
    simp [h, h3]

theorem bs_table (s : BitVec 32) (c : BitVec 8) : bs s c = (s >>> 8) ^^^ fk 8 ((s ^^^ c.setWidth 32) &&& 255#32) := by
  unfold bs
  have hx := low_bits (s ^^^ c.setWidth 32) 8 (by omega)
  have h255 : mk 8 = 255#32 := by decide
  rw [h255] at hx
  have hsh : fk 8 (((s ^^^ c.setWidth 32) >>> 8) <<< 8) = s >>> 8 := by
    rw [fk_shift 8 _ (by intro i hi; simp [hi])]
    apply BitVec.eq_of_getLsbD_eq
    intro i _
    by_cases h24 : i < 24
    · simp [show 8 + i < 32 by omega]
    · have : s.getLsbD (8 + i) = false := BitVec.getLsbD_of_ge _ _ (by omega)
      simp [this]
  calc fk 8 (s ^^^ c.setWidth 32) = fk 8 ((((s ^^^ c.setWidth 32) >>> 8) <<< 8) ^^^ ((s ^^^ c.setWidth 32) &&& 255#32)) := by rw [← hx]
    _ = _ := by rw [fk_xor, hsh]

/-! bit by bit -/
def b01 (b : Bool) : BitVec 32 := if b then 1#32 else 0#32
theorem b01_bit (b : Bool) (i : Nat) : (b01 b).getLsbD i = (b && decide (i = 0)) := by
  unfold b01
  cases b
  · simp
  · by_cases h : i = 0
    · subst h; rfl
    · simp [h]
def rb (s : BitVec 32) (b : Bool) : BitVec 32 := f1 (s ^^^ b01 b)
def rbs (s : BitVec 32) (l : List Bool) : BitVec 32 := l.foldl rb s
def one (k : Nat) : BitVec 32 := 1#32 <<< k
theorem one_bit (k i : Nat) (hi : i < 32) : (one k).getLsbD i = decide (i = k) := by
  unfold one
  rw [BitVec.getLsbD_shiftLeft]
  by_cases h : i < k
  · have : ¬ i = k := by omega
    simp [h, this]
  · by_cases h2 : i = k
    · subst h2; simp [hi]
    · have : ¬ i - k = 0 := by omega
      simp [h2, this]

theorem f1_b01 (x : BitVec 32) (k : Nat) (hk : k < 32) : fk k (x &&& one k) = b01 (x.getLsbD k) := by
  rw [fk_shift k _ (by intro i hi; rw [BitVec.getLsbD_and, one_bit k i (by omega)]; simp [show ¬ i = k by omega])]
  apply BitVec.eq_of_getLsbD_eq
  intro i hi
  rw [b01_bit, BitVec.getLsbD_ushiftRight, BitVec.getLsbD_and]
  by_cases h : i = 0
  · subst h; simp only [Nat.add_zero]; rw [one_bit k k hk]; simp
  · by_cases h2 : k + i < 32
    · rw [one_bit k (k + i) h2]; simp [h]
    · rw [BitVec.getLsbD_of_ge x _ (by omega)]; simp [h]

/-- the first k bits of a word, as a list. -/
def bitsN (k : Nat) (x : BitVec 32) : List Bool := (List.range k).map fun i => x.getLsbD i

theorem bitsN_succ (k : Nat) (x : BitVec 32) : bitsN (k + 1) x = bitsN k x ++ [x.getLsbD k] := by
  simp [bitsN, List.range_succ]

theorem low_succ (x : BitVec 32) (k : Nat) (hk : k < 32) : x &&& mk (k + 1) = (x &&& mk k) ^^^ (x &&& one k) := by
  apply BitVec.eq_of_getLsbD_eq
  intro i hi
  simp only [BitVec.getLsbD_xor, BitVec.getLsbD_and, mk_bit k i (by omega) hi, mk_bit (k + 1) i (by omega) hi, one_bit k i hi]
  rcases Nat.lt_trichotomy i k with h | h | h
  · simp [h, show i < k + 1 by omega, show ¬ i = k by omega]
  · subst h; simp
  · simp [show ¬ i < k + 1 by omega, show ¬ i < k by omega, show ¬ i = k by omega]

theorem and_mk_zero (x : BitVec 32) : x &&& mk 0 = 0#32 := by
  apply BitVec.eq_of_getLsbD_eq; intro i hi
  rw [BitVec.getLsbD_and, mk_bit 0 i (by omega) hi]; simp
theorem and_mk_all (x : BitVec 32) : x &&& mk 32 = x := by
  apply BitVec.eq_of_getLsbD_eq; intro i hi
  rw [BitVec.getLsbD_and, mk_bit 32 i (by omega) hi]; simp [hi]

theorem rbs_low (k : Nat) (s x : BitVec 32) (hk : k ≤ 32) : rbs s (bitsN k x) = fk k (s ^^^ (x &&& mk k)) := by
  induction k with
  | zero => rw [and_mk_zero]; simp [rbs, bitsN, fk]
  | succ k ih =>
    have e : rbs s (bitsN (k + 1) x) = rb (rbs s (bitsN k x)) (x.getLsbD k) := by rw [bitsN_succ, rbs, List.foldl_append]; rfl
    rw [e, ih (by omega), low_succ x k (by omega), ← BitVec.xor_assoc, fk_add k 1, fk_xor k _ (x &&& one k), f1_b01 x k (by omega)]
    rfl

theorem rbs_word (s x : BitVec 32) : rbs s (bitsN 32 x) = fk 32 (s ^^^ x) := by
  rw [rbs_low 32 s x (by omega), and_mk_all]

theorem rbs_cons (s : BitVec 32) (b : Bool) (l : List Bool) : rbs s (b :: l) = rbs (rb s b) l := rfl
theorem rbs_zeros (n : Nat) : ∀ s : BitVec 32, rbs s (List.replicate n false) = fk n s := by
  induction n with
  | zero => intro s; rfl
  | succ n ih =>
    intro s
    rw [List.replicate_succ, rbs_cons, ih]
    simp [rb, b01, fk]

theorem rbs_append (s : BitVec 32) (a b : List Bool) : rbs s (a ++ b) = rbs (rbs s a) b := by simp [rbs]

/-- a burst within 32 bits never leaves the register at nought. -/
theorem burst (a m : Nat) (x : BitVec 32) (h : rbs 0#32 (List.replicate a false ++ bitsN 32 x ++ List.replicate m false) = 0#32) : x = 0#32 := by
  rw [rbs_append, rbs_append, rbs_zeros m, rbs_zeros a, fk_zero, rbs_word, BitVec.zero_xor] at h
  exact fk_inj _ _ (fk_inj _ _ h)

def byteBits (c : BitVec 8) : List Bool := bitsN 8 (c.setWidth 32)
def allBits (l : List (BitVec 8)) : List Bool := l.flatMap byteBits

theorem bs_bits (s : BitVec 32) (c : BitVec 8) : bs s c = rbs s (byteBits c) := by
  unfold byteBits bs
  rw [rbs_low 8 _ _ (by omega)]
  have : c.setWidth 32 &&& mk 8 = c.setWidth 32 := by
    apply BitVec.eq_of_getLsbD_eq; intro i hi
    rw [BitVec.getLsbD_and, mk_bit 8 i (by omega) hi, BitVec.getLsbD_setWidth]
    by_cases h : i < 8
    · simp [h]
    · rw [BitVec.getLsbD_of_ge c _ (by omega)]; simp
  rw [this]

theorem crcL_bits (l : List (BitVec 8)) : ∀ s, crcL s l = rbs s (allBits l) := by
  induction l with
  | nil => intro s; rfl
  | cons c l ih =>
    intro s
    have h : crcL s (c :: l) = crcL (bs s c) l := rfl
    have h2 : allBits (c :: l) = byteBits c ++ allBits l := rfl
    rw [h, ih, bs_bits, h2, rbs_append]

/-- two streams of one length: the registers differ by what the differences make. -/
theorem rb_xor (s t : BitVec 32) (b c : Bool) : rb s b ^^^ rb t c = rb (s ^^^ t) (b ^^ c) := by
  unfold rb
  rw [← f1_xor]
  congr 1
  have : b01 (b ^^ c) = b01 b ^^^ b01 c := by cases b <;> cases c <;> decide
  rw [this]
  ac_rfl

theorem rbs_xor : ∀ (x y : List Bool) (s t : BitVec 32), x.length = y.length → rbs s x ^^^ rbs t y = rbs (s ^^^ t) (List.zipWith Bool.xor x y)
  | [], [], s, t, _ => rfl
  | a :: x, b :: y, s, t, h => by
    have := rbs_xor x y (rb s a) (rb t b) (by simpa using h)
    rw [rbs_cons, rbs_cons, this, rb_xor, List.zipWith_cons_cons, rbs_cons]
  | [], b :: y, s, t, h => by simp at h
  | a :: x, [], s, t, h => by simp at h
end Go.Proofs.Ytdglaacjefcfdaa.Fr
