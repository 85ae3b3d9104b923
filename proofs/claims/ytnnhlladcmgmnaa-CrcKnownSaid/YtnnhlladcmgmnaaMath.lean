/-
  What is left of a line of bits, as plain mathematics: one bit's step on a register of 32 bits, a byte's step, rows of bytes; they are linear. No Go in it.
-/
namespace Go.Proofs.Ytnnhlladcmgmnaa.Math

/-- The places that a 1 turns. -/
def poly : BitVec 32 := 0xEDB88320#32
/-- One bit is worn down. -/
def B (x : BitVec 32) : BitVec 32 := (x >>> 1) ^^^ (if x.getLsbD 0 then poly else 0#32)
def BN : Nat → BitVec 32 → BitVec 32
  | 0, x => x
  | n + 1, x => BN n (B x)
/-- A byte is worn down. -/
def stepB (r : BitVec 32) (c : BitVec 8) : BitVec 32 := BN 8 (r ^^^ c.setWidth 32)
def row (r : BitVec 32) (l : List (BitVec 8)) : BitVec 32 := l.foldl stepB r

theorem B_xor (x y : BitVec 32) : B (x ^^^ y) = B x ^^^ B y := by
  unfold B
  rw [BitVec.getLsbD_xor, BitVec.ushiftRight_xor_distrib]
  cases x.getLsbD 0 <;> cases y.getLsbD 0 <;> simp
  · ac_rfl
  · ac_rfl
  · rw [show x >>> 1 ^^^ poly ^^^ (y >>> 1 ^^^ poly) = (x >>> 1 ^^^ y >>> 1) ^^^ (poly ^^^ poly) by ac_rfl, BitVec.xor_self, BitVec.xor_zero]
theorem B_zero : B 0#32 = 0#32 := by decide
theorem BN_xor (n : Nat) : ∀ x y, BN n (x ^^^ y) = BN n x ^^^ BN n y := by
  induction n with
  | zero => intro x y; rfl
  | succ n ih => intro x y; simp only [BN]; rw [B_xor, ih]
theorem BN_zero (n : Nat) : BN n 0#32 = 0#32 := by
  induction n with
  | zero => rfl
  | succ n ih => simp only [BN]; rw [B_zero, ih]
theorem BN_add (a b : Nat) : ∀ x, BN (a + b) x = BN b (BN a x) := by
  induction a with
  | zero => intro x; simp [BN]
  | succ a ih => intro x; rw [Nat.add_right_comm]; simp only [BN]; exact ih _
theorem BN_succ (n : Nat) (x : BitVec 32) : BN (n + 1) x = B (BN n x) := by
  rw [BN_add n 1]; rfl

theorem stepB_xor (r s : BitVec 32) (c d : BitVec 8) : stepB (r ^^^ s) (c ^^^ d) = stepB r c ^^^ stepB s d := by
  unfold stepB
  rw [← BN_xor]
  congr 1
  rw [BitVec.setWidth_xor]
  ac_rfl
theorem row_xor (a : List (BitVec 8)) : ∀ (b : List (BitVec 8)) (r s : BitVec 32), a.length = b.length → row (r ^^^ s) (List.zipWith (· ^^^ ·) a b) = row r a ^^^ row s b := by
  induction a with
  | nil => intro b r s h; cases b with
    | nil => rfl
    | cons => simp at h
  | cons x a ih => intro b r s h; cases b with
    | nil => simp at h
    | cons y b =>
      simp only [row, List.zipWith_cons_cons, List.foldl_cons]
      rw [stepB_xor]
      exact ih b _ _ (by simpa using h)
theorem row_append (r : BitVec 32) (a b : List (BitVec 8)) : row r (a ++ b) = row (row r a) b := by simp [row, List.foldl_append]

/-! four bits at a time -/
def four (n : BitVec 32) : BitVec 32 := BN 4 (n &&& 15#32)
theorem B_bit0 (x : BitVec 32) (h : x.getLsbD 0 = false) : B x = x >>> 1 := by unfold B; rw [h]; simp
theorem split4 (x : BitVec 32) : x = ((x >>> 4) <<< 4) ^^^ (x &&& 15#32) := by
  have h15 : ∀ i, (15#32).getLsbD i = decide (i < 4) := by
    intro i
    rcases Nat.lt_or_ge i 32 with h | h
    · have : ∀ j : Fin 32, (15#32).getLsbD j.1 = decide (j.1 < 4) := by decide
      exact this ⟨i, h⟩
    · rw [BitVec.getLsbD_of_ge _ _ h]; symm; simp; omega
  apply BitVec.eq_of_getLsbD_eq
  intro i hi
  rw [BitVec.getLsbD_xor, BitVec.getLsbD_shiftLeft, BitVec.getLsbD_ushiftRight, BitVec.getLsbD_and, h15]
  by_cases h : i < 4
  · simp [h]
  · have e : 4 + (i - 4) = i := by omega
    simp [h, hi, e]
theorem BN4_high (y : BitVec 32) : BN 4 ((y >>> 4) <<< 4) = y >>> 4 := by
  have key : ∀ (z : BitVec 32) (k : Nat), k < 4 → B ((z >>> 4) <<< (k + 1)) = (z >>> 4) <<< k := by
    intro z k hk
    rw [B_bit0 _ (by simp)]
    apply BitVec.eq_of_getLsbD_eq
    intro i hi
    simp only [BitVec.getLsbD_ushiftRight, BitVec.getLsbD_shiftLeft]
    by_cases h1 : 1 + i < 32
    · by_cases h2 : i < k
      · simp [h1, h2, hi]; omega
      · have e : 1 + i - (k + 1) = i - k := by omega
        have e2 : ¬ 1 + i < k + 1 := by omega
        simp [h1, h2, hi, e, e2]
    · have hi' : i = 31 := by omega
      subst hi'
      have : z.getLsbD (4 + (31 - k)) = false := BitVec.getLsbD_of_ge _ _ (by omega)
      simp [this]
  simp only [BN]
  rw [key y 3 (by omega), key y 2 (by omega), key y 1 (by omega), key y 0 (by omega)]
  simp
theorem BN4 (x : BitVec 32) : BN 4 x = (x >>> 4) ^^^ four x := by
  conv => lhs; rw [split4 x]
  rw [BN_xor, BN4_high]
  rfl
theorem BN8 (x : BitVec 32) : BN 8 x = BN 4 (BN 4 x) := BN_add 4 4 x
/-- What is left of four bits, by their number. -/
def fourTab : List Nat := [0, 0x1DB71064, 0x3B6E20C8, 0x26D930AC, 0x76DC4190, 0x6B6B51F4, 0x4DB26158, 0x5005713C, 0xEDB88320, 0xF00F9344, 0xD6D6A3E8, 0xCB61B38C, 0x9B64C2B0, 0x86D3D2D4, 0xA00AE278, 0xBDBDF21C]
theorem four_tab (x : BitVec 32) : (four x).toNat = fourTab.getD (x.toNat % 16) 0 := by
  have h : ∀ n : Fin 16, (BN 4 (BitVec.ofNat 32 n.1)).toNat = fourTab.getD n.1 0 := by decide
  have e : x &&& 15#32 = BitVec.ofNat 32 (x.toNat % 16) := by
    apply BitVec.eq_of_toNat_eq
    rw [BitVec.toNat_and, BitVec.toNat_ofNat]
    rw [show 15 % 2 ^ 32 = 2 ^ 4 - 1 from rfl, Nat.and_two_pow_sub_one_eq_mod, BitVec.toNat_ofNat]
    omega
  unfold four
  rw [e]
  exact h ⟨x.toNat % 16, Nat.mod_lt _ (by omega)⟩

/-! a row with its own Sum behind it -/
def bytesOf (n : BitVec 32) : List (BitVec 8) := [n.setWidth 8, (n >>> 8).setWidth 8, (n >>> 16).setWidth 8, (n >>> 24).setWidth 8]
theorem BN_shl (k : Nat) : ∀ (x : BitVec 32), k ≤ 24 → x.toNat < 256 → BN k (x <<< k) = x := by
  induction k with
  | zero => intro x _ _; simp [BN]
  | succ k ih =>
    intro x hk hx
    simp only [BN]
    rw [B_bit0 _ (by simp)]
    have : x <<< (k + 1) >>> 1 = x <<< k := by
      apply BitVec.eq_of_getLsbD_eq
      intro i hi
      simp only [BitVec.getLsbD_ushiftRight, BitVec.getLsbD_shiftLeft]
      by_cases h1 : 1 + i < 32
      · by_cases h2 : i < k
        · simp [h1, h2, hi]; omega
        · have e : 1 + i - (k + 1) = i - k := by omega
          have e2 : ¬ 1 + i < k + 1 := by omega
          simp [h1, h2, hi, e, e2]
      · have hi' : i = 31 := by omega
        subst hi'
        have hz : x.getLsbD (31 - k) = false := by
          rw [BitVec.getLsbD, Nat.testBit_lt_two_pow]
          calc x.toNat < 2 ^ 7 * 2 := by omega
            _ ≤ 2 ^ (31 - k) := by rw [show (2:Nat) ^ 7 * 2 = 2 ^ 8 from rfl]; exact Nat.pow_le_pow_right (by omega) (by omega)
        simp [hz]
    rw [this]
    exact ih x (by omega) hx
theorem stepB_eq (r : BitVec 32) (c : BitVec 8) : stepB r c = BN 8 r ^^^ BN 8 (c.setWidth 32) := by unfold stepB; rw [BN_xor]
theorem row_bytesOf (r n : BitVec 32) : row r (bytesOf n) = BN 32 (r ^^^ n) := by
  have hs : ∀ (c : BitVec 8), (c.setWidth 32).toNat < 256 := by
    intro c; rw [BitVec.toNat_setWidth]; have := c.isLt; omega
  have hn : n = ((((n.setWidth 8).setWidth 32) ^^^ (((n >>> 8).setWidth 8).setWidth 32 <<< 8)) ^^^ (((n >>> 16).setWidth 8).setWidth 32 <<< 16)) ^^^ (((n >>> 24).setWidth 8).setWidth 32 <<< 24) := by
    apply BitVec.eq_of_getLsbD_eq
    intro i hi
    simp only [BitVec.getLsbD_xor, BitVec.getLsbD_shiftLeft, BitVec.getLsbD_setWidth, BitVec.getLsbD_ushiftRight]
    rcases (by omega : i < 8 ∨ (8 ≤ i ∧ i < 16) ∨ (16 ≤ i ∧ i < 24) ∨ (24 ≤ i ∧ i < 32)) with h | h | h | h
    · have h1 : i < 16 := by omega
      have h2 : i < 24 := by omega
      simp [h, hi, h1, h2]
    · have h0 : ¬ i < 8 := by omega
      have h1 : i < 16 := by omega
      have h2 : i < 24 := by omega
      have h3 : i - 8 < 8 := by omega
      have h4 : i - 8 < 32 := by omega
      have e : 8 + (i - 8) = i := by omega
      simp [h0, h1, h2, h3, h4, e, hi]
    · have h0 : ¬ i < 8 := by omega
      have h1 : ¬ i < 16 := by omega
      have h2 : i < 24 := by omega
      have h3 : ¬ i - 8 < 8 := by omega
      have h4 : i - 16 < 8 := by omega
      have h5 : i - 16 < 32 := by omega
      have e : 16 + (i - 16) = i := by omega
      simp [h0, h1, h2, h3, h4, h5, e, hi]
    · have h0 : ¬ i < 8 := by omega
      have h1 : ¬ i < 16 := by omega
      have h2 : ¬ i < 24 := by omega
      have h3 : ¬ i - 8 < 8 := by omega
      have h4 : ¬ i - 16 < 8 := by omega
      have h5 : i - 24 < 8 := by omega
      have h6 : i - 24 < 32 := by omega
      have e : 24 + (i - 24) = i := by omega
      simp [h0, h1, h2, h3, h4, h5, h6, e, hi]
  generalize h0 : n.setWidth 8 = c0 at hn
  generalize h1 : (n >>> 8).setWidth 8 = c1 at hn
  generalize h2 : (n >>> 16).setWidth 8 = c2 at hn
  generalize h3 : (n >>> 24).setWidth 8 = c3 at hn
  have e : bytesOf n = [c0, c1, c2, c3] := by unfold bytesOf; rw [h0, h1, h2, h3]
  rw [e]
  have hn' : n = ((c0.setWidth 32 ^^^ (c1.setWidth 32 <<< 8)) ^^^ (c2.setWidth 32 <<< 16)) ^^^ (c3.setWidth 32 <<< 24) := hn
  rw [hn']
  simp only [row, List.foldl_cons, List.foldl_nil, stepB_eq, BN_xor]
  have e1 : BN 32 (c1.setWidth 32 <<< 8) = BN 24 (c1.setWidth 32) := by
    rw [show BN 32 = BN (8 + 24) from rfl, BN_add 8 24, BN_shl 8 _ (by omega) (hs c1)]
  have e2 : BN 32 (c2.setWidth 32 <<< 16) = BN 16 (c2.setWidth 32) := by
    rw [show BN 32 = BN (16 + 16) from rfl, BN_add 16 16, BN_shl 16 _ (by omega) (hs c2)]
  have e3 : BN 32 (c3.setWidth 32 <<< 24) = BN 8 (c3.setWidth 32) := by
    rw [show BN 32 = BN (24 + 8) from rfl, BN_add 24 8, BN_shl 24 _ (by omega) (hs c3)]
  rw [e1, e2, e3]
  simp only [← BN_add]
  simp only [show (8 + 8 : Nat) = 16 from rfl, show (16 + 8 : Nat) = 24 from rfl, show (24 + 8 : Nat) = 32 from rfl]
  ac_rfl
theorem self (r : BitVec 32) : row r (bytesOf (~~~r)) = 0xDEBB20E3#32 := by
  rw [row_bytesOf]
  have : r ^^^ ~~~r = BitVec.allOnes 32 := by
    apply BitVec.eq_of_getLsbD_eq
    intro i hi
    rw [BitVec.getLsbD_xor, BitVec.getLsbD_not, BitVec.getLsbD_allOnes]
    cases r.getLsbD i <;> simp [hi]
  rw [this]
  decide
/-! lines of bits, worn down in their place: a window of 32 bits goes over the line -/
/-- The number of the first j bits of a line from place n on. -/
def wv (L : List Bool) (n : Nat) : Nat → Nat
  | 0 => 0
  | j + 1 => wv L n j + (if L.getD (n + j) false then 2 ^ j else 0)
theorem wv_lt (L : List Bool) (n j : Nat) : wv L n j < 2 ^ j := by
  induction j with
  | zero => simp [wv]
  | succ j ih => simp only [wv]; rw [Nat.pow_succ]; split <;> omega
theorem wv_bit (L : List Bool) (n : Nat) (j : Nat) : ∀ i, (wv L n j).testBit i = (decide (i < j) && L.getD (n + i) false) := by
  induction j with
  | zero => intro i; simp [wv]
  | succ j ih =>
    intro i
    have hlt := wv_lt L n j
    simp only [wv]
    by_cases hb : L.getD (n + j) false = true
    · rw [if_pos hb, Nat.add_comm]
      rcases Nat.lt_trichotomy i j with h | h | h
      · rw [Nat.testBit_two_pow_add_gt h, ih]
        simp [h, Nat.lt_succ_of_lt h]
      · subst h
        rw [Nat.testBit_two_pow_add_eq, ih]
        rw [hb]; simp
      · rw [Nat.testBit_lt_two_pow (Nat.lt_of_lt_of_le (by rw [Nat.pow_succ]; omega : 2 ^ j + wv L n j < 2 ^ (j + 1)) (Nat.pow_le_pow_right (by omega) h))]
        have : ¬ i < j + 1 := by omega
        simp [this]
    · rw [if_neg hb, Nat.add_zero, ih]
      by_cases h : i < j
      · simp [h, Nat.lt_succ_of_lt h]
      · by_cases h' : i = j
        · subst h'; simp at hb ⊢; rw [hb]
        · have : ¬ i < j + 1 := by omega
          simp [h, this]
def win (L : List Bool) (n : Nat) : BitVec 32 := BitVec.ofNat 32 (wv L n 32)
theorem win_toNat (L : List Bool) (n : Nat) : (win L n).toNat = wv L n 32 := by
  unfold win; rw [BitVec.toNat_ofNat, Nat.mod_eq_of_lt (wv_lt L n 32)]
theorem win_bit (L : List Bool) (n i : Nat) (hi : i < 32) : (win L n).getLsbD i = L.getD (n + i) false := by
  rw [BitVec.getLsbD, win_toNat, wv_bit]; simp [hi]
theorem win_ext (L : List Bool) (n : Nat) (x : BitVec 32) (h : ∀ i, i < 32 → L.getD (n + i) false = x.getLsbD i) : win L n = x := by
  apply BitVec.eq_of_getLsbD_eq
  intro i hi
  rw [win_bit L n i hi, h i hi]
/-- The bit that comes in at the head. -/
def top (b : Bool) : BitVec 32 := if b then 0x80000000#32 else 0#32
theorem top_bit (b : Bool) (i : Nat) (hi : i < 32) : (top b).getLsbD i = (b && decide (i = 31)) := by
  have h : ∀ (b : Bool) (j : Fin 32), (top b).getLsbD j.1 = (b && decide (j.1 = 31)) := by decide
  exact h b ⟨i, hi⟩
def fin : BitVec 32 → List Bool → BitVec 32
  | w, [] => w
  | w, b :: bs => fin (B w ^^^ top b) bs
def taps : List Nat := [6, 9, 10, 16, 20, 21, 22, 24, 25, 27, 28, 30, 31, 32]
theorem poly_bit (i : Nat) (hi : i < 32) : poly.getLsbD i = taps.contains (i + 1) := by
  have h : ∀ (j : Fin 32), poly.getLsbD j.1 = taps.contains (j.1 + 1) := by decide
  exact h ⟨i, hi⟩
def tog (n : Nat) (L : List Bool) (t : Nat) : List Bool := L.set (n + t) (!L.getD (n + t) false)
def togs (n : Nat) (L : List Bool) (ts : List Nat) : List Bool := ts.foldl (tog n) L
theorem getD_set (L : List Bool) (a p : Nat) (v : Bool) (ha : a < L.length) : (L.set a v).getD p false = if p = a then v else L.getD p false := by
  rw [List.getD_eq_getElem?_getD, List.getD_eq_getElem?_getD, List.getElem?_set]
  by_cases h : a = p
  · subst h; simp [ha]
  · have h' : ¬ p = a := fun e => h e.symm
    simp [h, h']
theorem togs_length (n : Nat) (ts : List Nat) : ∀ L, (togs n L ts).length = L.length := by
  induction ts with
  | nil => intro L; rfl
  | cons t ts ih => intro L; show (togs n (tog n L t) ts).length = _; rw [ih]; simp [tog]
theorem togs_getD (n : Nat) (ts : List Nat) : ∀ L, ts.Nodup → (∀ t ∈ ts, n + t < L.length) → ∀ p, (togs n L ts).getD p false = (L.getD p false != (decide (n ≤ p) && ts.contains (p - n))) := by
  induction ts with
  | nil => intro L _ _ p; simp [togs]
  | cons t ts ih =>
    intro L hnd hlt p
    obtain ⟨hn, hnd'⟩ := List.nodup_cons.1 hnd
    have h0 : n + t < L.length := hlt t (List.mem_cons_self ..)
    show (togs n (tog n L t) ts).getD p false = _
    rw [ih (tog n L t) hnd' (fun u hu => by rw [show (tog n L t).length = L.length by simp [tog]]; exact hlt u (List.mem_cons_of_mem _ hu))]
    unfold tog
    rw [getD_set L _ p _ h0]
    by_cases hp : p = n + t
    · subst hp
      have e : n + t - n = t := by omega
      have hc : ts.contains t = false := by simpa using hn
      rw [if_pos rfl, e, hc, List.contains_cons]
      cases L.getD (n + t) false <;> simp
    · rw [if_neg hp]
      by_cases hle : n ≤ p
      · have : (p - n == t) = false := by rw [beq_eq_false_iff_ne]; omega
        rw [List.contains_cons, this, Bool.false_or]
      · simp [hle]
/-- One round at a 1. -/
theorem win_on (L : List Bool) (n : Nat) (hn : n + 32 < L.length) (hb : L.getD n false = true) : win (togs n L taps) (n + 1) = B (win L n) ^^^ top (L.getD (n + 32) false) := by
  apply win_ext
  intro i hi
  rw [togs_getD n taps L (by decide) (fun t ht => by
    have : ∀ t ∈ taps, t ≤ 32 := by decide
    have := this t ht; omega)]
  have e : n + 1 + i - n = i + 1 := by omega
  have hle : n ≤ n + 1 + i := by omega
  rw [e, ← poly_bit i hi]
  have hb0 : (win L n).getLsbD 0 = true := (win_bit L n 0 (by omega)).trans hb
  unfold B
  rw [hb0]
  simp only [if_true, hle, decide_true, Bool.true_and]
  rw [BitVec.getLsbD_xor, BitVec.getLsbD_xor, top_bit _ _ hi, BitVec.getLsbD_ushiftRight]
  by_cases h31 : i = 31
  · subst h31
    rw [BitVec.getLsbD_of_ge (win L n) _ (by omega)]
    rw [show n + 1 + 31 = n + 32 by omega]
    generalize L.getD (n + 32) false = u
    generalize poly.getLsbD 31 = v
    cases u <;> cases v <;> rfl
  · rw [win_bit L n (1 + i) (by omega), show n + (1 + i) = n + 1 + i by omega]
    simp only [h31, decide_false, Bool.and_false]
    cases L.getD (n + 1 + i) false <;> cases poly.getLsbD i <;> rfl
/-- One round at a 0. -/
theorem win_off (L : List Bool) (n : Nat) (hb : L.getD n false = false) : win L (n + 1) = B (win L n) ^^^ top (L.getD (n + 32) false) := by
  apply win_ext
  intro i hi
  have hb0 : (win L n).getLsbD 0 = false := (win_bit L n 0 (by omega)).trans hb
  unfold B
  rw [hb0]
  rw [BitVec.getLsbD_xor, BitVec.getLsbD_xor, top_bit _ _ hi, BitVec.getLsbD_ushiftRight]
  by_cases h31 : i = 31
  · subst h31
    rw [BitVec.getLsbD_of_ge (win L n) _ (by omega), show n + 1 + 31 = n + 32 by omega]
    simp
  · rw [win_bit L n (1 + i) (by omega), show n + (1 + i) = n + 1 + i by omega]
    simp [h31]
theorem fin_zeros (d : Nat) : ∀ w, fin w (List.replicate d false) = BN d w := by
  induction d with
  | zero => intro w; rfl
  | succ d ih =>
    intro w
    rw [List.replicate_succ]
    simp only [fin, BN]
    rw [show top false = 0#32 from rfl, BitVec.xor_zero, ih]

/-! the same, bit by bit ahead of the register -/
def one (b : Bool) : BitVec 32 := if b then 1#32 else 0#32
def bitrow : BitVec 32 → List Bool → BitVec 32
  | r, [] => r
  | r, b :: bs => bitrow (B (r ^^^ one b)) bs
theorem bitrow_append (a : List Bool) : ∀ r b, bitrow r (a ++ b) = bitrow (bitrow r a) b := by
  induction a with
  | nil => intro r b; rfl
  | cons x a ih => intro r b; simp only [List.cons_append, bitrow]; exact ih _ _
theorem B_one (b : Bool) : B (one b) = if b then poly else 0#32 := by cases b <;> decide
theorem win_cons (b : Bool) (M : List Bool) (n : Nat) : win (b :: M) (n + 1) = win M n := by
  apply win_ext
  intro i hi
  rw [win_bit M n i hi, show n + 1 + i = (n + i) + 1 by omega]
  simp
theorem fin_inv (d : Nat) : ∀ (M : List Bool) (r : BitVec 32), M.length = d + 32 → fin (r ^^^ win M 0) (M.drop 32) = bitrow r (M.take d) ^^^ win M d := by
  induction d with
  | zero =>
    intro M r h
    rw [List.drop_of_length_le (by omega)]
    simp [fin, bitrow]
  | succ d ih =>
    intro M r h
    cases M with
    | nil => simp at h
    | cons b M =>
      have hM : M.length = d + 32 := by simpa using h
      have h31 : 31 < M.length := by omega
      rw [List.drop_succ_cons, List.drop_eq_getElem_cons h31]
      simp only [fin, List.take_succ_cons, bitrow]
      rw [win_cons, ← ih M _ hM]
      congr 1
      have hw : win M 0 = win (b :: M) 1 := (win_cons b M 0).symm
      have h32 : (b :: M).getD 32 false = M[31] := by simp [List.getD_eq_getElem?_getD, h31]
      have hB : B (win (b :: M) 0) ^^^ top M[31] = win M 0 ^^^ B (one b) := by
        rw [hw, B_one]
        cases b with
        | false =>
          rw [win_off (false :: M) 0 rfl, Nat.zero_add, h32]; simp
        | true =>
          have hb : win (true :: M) 1 = (win (true :: M) 0 >>> 1) ^^^ top M[31] := by
            apply win_ext
            intro i hi
            rw [BitVec.getLsbD_xor, top_bit _ _ hi, BitVec.getLsbD_ushiftRight]
            by_cases hi31 : i = 31
            · subst hi31
              rw [BitVec.getLsbD_of_ge (win (true :: M) 0) _ (by omega), show 1 + 31 = 32 from rfl, h32]
              simp
            · rw [win_bit _ 0 (1 + i) (by omega), Nat.zero_add]; simp [hi31]
          rw [hb]
          unfold B
          rw [win_bit _ 0 0 (by omega)]
          simp
          ac_rfl
      rw [B_xor, B_xor, BitVec.xor_assoc, hB]
      ac_rfl
def bitsN : Nat → BitVec 32 → List Bool
  | 0, _ => []
  | j + 1, x => x.getLsbD 0 :: bitsN j (x >>> 1)
theorem bitsN_length (j : Nat) : ∀ x, (bitsN j x).length = j := by
  induction j with
  | zero => intro x; rfl
  | succ j ih => intro x; simp [bitsN, ih]
theorem bitsN_getD (j : Nat) : ∀ x i, i < j → (bitsN j x).getD i false = x.getLsbD i := by
  induction j with
  | zero => intro x i h; omega
  | succ j ih =>
    intro x i h
    cases i with
    | zero => simp [bitsN]
    | succ i =>
      have := ih (x >>> 1) i (by omega)
      simp only [bitsN, List.getD_cons_succ]
      rw [this, BitVec.getLsbD_ushiftRight, Nat.add_comm]
theorem B_halve (x : BitVec 32) : B x = B (one (x.getLsbD 0)) ^^^ (x >>> 1) := by
  rw [B_one]; unfold B; ac_rfl
theorem bitrow_bits (j : Nat) : ∀ (x r : BitVec 32), x.toNat < 2 ^ j → BN j (r ^^^ x) = bitrow r (bitsN j x) := by
  induction j with
  | zero =>
    intro x r h
    have : x = 0#32 := by apply BitVec.eq_of_toNat_eq; simp at h ⊢; omega
    subst this
    simp [BN, bitsN, bitrow]
  | succ j ih =>
    intro x r h
    simp only [BN, bitsN, bitrow]
    rw [B_xor, B_halve x, ← BitVec.xor_assoc, ← B_xor]
    refine ih (x >>> 1) _ ?_
    rw [BitVec.toNat_ushiftRight, Nat.shiftRight_eq_div_pow]
    rw [Nat.pow_succ] at h
    omega
theorem getD_left (a b : List Bool) (p : Nat) (h : p < a.length) : (a ++ b).getD p false = a.getD p false := by
  rw [List.getD_eq_getElem?_getD, List.getD_eq_getElem?_getD, List.getElem?_append_left h]
theorem getD_right (a b : List Bool) (p : Nat) (h : a.length ≤ p) : (a ++ b).getD p false = b.getD (p - a.length) false := by
  rw [List.getD_eq_getElem?_getD, List.getD_eq_getElem?_getD, List.getElem?_append_right h]
theorem getD_none (a : List Bool) (p : Nat) (h : a.length ≤ p) : a.getD p false = false := by
  rw [List.getD_eq_getElem?_getD, List.getElem?_eq_none h]; rfl
def bitsOf (l : List (BitVec 8)) : List Bool := l.flatMap fun c => bitsN 8 (c.setWidth 32)
theorem bitsOf_length (l : List (BitVec 8)) : (bitsOf l).length = 8 * l.length := by
  induction l with
  | nil => rfl
  | cons c l ih => simp only [bitsOf, List.flatMap_cons, List.length_append, bitsN_length, List.length_cons] at ih ⊢; omega
theorem bitsOf_getD (l : List (BitVec 8)) : ∀ p, p < 8 * l.length → (bitsOf l).getD p false = (l.getD (p / 8) 0#8).getLsbD (p % 8) := by
  induction l with
  | nil => intro p h; simp at h
  | cons c l ih =>
    intro p h
    simp only [List.length_cons] at h
    show (bitsN 8 (c.setWidth 32) ++ bitsOf l).getD p false = _
    by_cases h8 : p < 8
    · rw [getD_left _ _ _ (by rw [bitsN_length]; exact h8), bitsN_getD _ _ _ h8]
      rw [Nat.div_eq_of_lt h8, Nat.mod_eq_of_lt h8, BitVec.getLsbD_setWidth]
      simp
      omega
    · rw [getD_right _ _ _ (by rw [bitsN_length]; omega), bitsN_length, ih _ (by omega)]
      obtain ⟨q, rfl⟩ : ∃ q, p = q + 8 := ⟨p - 8, by omega⟩
      rw [Nat.add_sub_cancel, Nat.add_mod_right, Nat.add_div_right _ (by omega)]
      simp
theorem bitrow_row (l : List (BitVec 8)) : ∀ r, bitrow r (bitsOf l) = row r l := by
  induction l with
  | nil => intro r; rfl
  | cons c l ih =>
    intro r
    show bitrow r (bitsN 8 (c.setWidth 32) ++ bitsOf l) = row (stepB r c) l
    rw [bitrow_append, ih, ← bitrow_bits 8 (c.setWidth 32) r (by rw [BitVec.toNat_setWidth]; have := c.isLt; omega)]
    rfl
/-- A line of bytes with 32 noughts behind it, its first 32 turned: what is left of it. -/
theorem line_left (l : List (BitVec 8)) (L : List Bool) (hl : L.length = 8 * l.length + 32)
    (h : ∀ p, L.getD p false = if p < 32 then !((bitsOf l).getD p false) else (bitsOf l).getD p false) :
    fin (win L 0) (L.drop 32) = row (BitVec.allOnes 32) l := by
  let M := bitsOf l ++ List.replicate 32 false
  have hM : M.length = 8 * l.length + 32 := by simp [M, bitsOf_length]
  have hg : ∀ p, M.getD p false = (bitsOf l).getD p false := by
    intro p
    by_cases hp : p < (bitsOf l).length
    · exact getD_left _ _ _ hp
    · rw [getD_right _ _ _ (by omega), getD_none _ _ (by omega : (bitsOf l).length ≤ p)]
      rw [List.getD_eq_getElem?_getD, List.getElem?_replicate]
      split <;> rfl
  have hw : win L 0 = BitVec.allOnes 32 ^^^ win M 0 := by
    apply win_ext
    intro i hi
    rw [BitVec.getLsbD_xor, BitVec.getLsbD_allOnes, win_bit M 0 i hi, Nat.zero_add, h i, if_pos hi, hg]
    simp [hi]
  have hd : L.drop 32 = M.drop 32 := by
    apply List.ext_getElem?
    intro i
    rw [List.getElem?_drop, List.getElem?_drop]
    have hp : ¬ 32 + i < 32 := by omega
    have e := (h (32 + i)).trans ((if_neg hp).trans (hg (32 + i)).symm)
    rw [List.getD_eq_getElem?_getD, List.getD_eq_getElem?_getD] at e
    by_cases hi : 32 + i < L.length
    · rw [List.getElem?_eq_getElem hi, List.getElem?_eq_getElem (by omega)] at e ⊢
      simpa using e
    · rw [List.getElem?_eq_none (by omega), List.getElem?_eq_none (by omega)]
  rw [hw, hd, fin_inv (8 * l.length) M _ hM]
  have ht : M.take (8 * l.length) = bitsOf l := by
    rw [← bitsOf_length l]; exact List.take_left
  have hz : win M (8 * l.length) = 0#32 := by
    apply win_ext
    intro i hi
    rw [hg, getD_none _ _ (by rw [bitsOf_length]; omega)]
    simp
  rw [ht, hz, BitVec.xor_zero, bitrow_row]

end Go.Proofs.Ytnnhlladcmgmnaa.Math
