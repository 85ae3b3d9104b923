/-
  Three bits that are turned in at most 1000 bytes are always seen: a bit's mark behind t steps, 1 to 8000, and three of them never add up to nothing. No Go in it.
-/
import Derived.Test.YtnnhlladcmgmnaaMath
namespace Go.Proofs.Ytnnhlladcmgmnaa.Math
/-! one bit that runs on: where it stands behind t steps; three of them never meet within 8000 -/
def sN (t : Nat) : BitVec 32 := BN t 1#32
def stepN (v : Nat) : Nat := if v % 2 = 1 then Nat.xor (v / 2) 0xEDB88320 else v / 2
theorem B_toNat (x : BitVec 32) : (B x).toNat = stepN x.toNat := by
  unfold B stepN
  have h0 : x.getLsbD 0 = decide (x.toNat % 2 = 1) := by
    rw [BitVec.getLsbD, Nat.testBit_zero]
  rw [h0, BitVec.toNat_xor, BitVec.toNat_ushiftRight, Nat.shiftRight_eq_div_pow]
  by_cases h : x.toNat % 2 = 1
  · rw [if_pos h]; simp [h, poly]
  · rw [if_neg h]; simp [h]
/-- Halves of n values from v on. -/
def halves : Nat → Nat → List Nat
  | 0, _ => []
  | n + 1, v => match stepN v with
    | 0 => []
    | w + 1 => Nat.div (w + 1) 2 :: halves n (w + 1)
def half (b : Nat) : List Nat → List Nat
  | [] => []
  | x :: l => match Nat.beq (Nat.mod x 2) b with
    | true => Nat.div x 2 :: half b l
    | false => half b l
def apart : Nat → List Nat → Bool
  | _, [] => true
  | _, [_] => true
  | 0, _ => false
  | f + 1, x :: y :: l => match apart f (half 0 (x :: y :: l)) with
    | true => apart f (half 1 (x :: y :: l))
    | false => false
theorem half_cons (b y : Nat) (l : List Nat) : half b (y :: l) = if y % 2 = b then y / 2 :: half b l else half b l := by
  show (match Nat.beq (Nat.mod y 2) b with | true => Nat.div y 2 :: half b l | false => half b l) = _
  cases hb : Nat.beq (Nat.mod y 2) b with
  | true =>
    have e : y % 2 = b := Nat.eq_of_beq_eq_true hb
    rw [if_pos e]; rfl
  | false =>
    have e : ¬ y % 2 = b := Nat.ne_of_beq_eq_false hb
    rw [if_neg e]
theorem mem_half (b x : Nat) (hx : x % 2 = b) : ∀ l, x ∈ l → x / 2 ∈ half b l := by
  intro l
  induction l with
  | nil => intro h; cases h
  | cons y l ih =>
    intro h
    rw [half_cons]
    rcases List.mem_cons.1 h with rfl | h'
    · rw [if_pos hx]; exact List.mem_cons_self ..
    · split
      · exact List.mem_cons_of_mem _ (ih h')
      · exact ih h'
theorem nodup_of_halves : ∀ l, (half 0 l).Nodup → (half 1 l).Nodup → l.Nodup := by
  intro l
  induction l with
  | nil => intro _ _; exact List.nodup_nil
  | cons y l ih =>
    intro h0 h1
    rw [half_cons] at h0 h1
    rw [List.nodup_cons]
    rcases Nat.mod_two_eq_zero_or_one y with hy | hy
    · rw [if_pos hy] at h0; rw [if_neg (by omega)] at h1
      obtain ⟨hn, hd⟩ := List.nodup_cons.1 h0
      exact ⟨fun hm => hn (mem_half 0 y hy l hm), ih hd h1⟩
    · rw [if_neg (by omega)] at h0; rw [if_pos hy] at h1
      obtain ⟨hn, hd⟩ := List.nodup_cons.1 h1
      exact ⟨fun hm => hn (mem_half 1 y hy l hm), ih h0 hd⟩
theorem nodup_of_apart (f : Nat) : ∀ l, apart f l = true → l.Nodup := by
  induction f with
  | zero =>
    intro l h
    match l with
    | [] => exact List.nodup_nil
    | [x] => simp
    | x :: y :: l => simp [apart] at h
  | succ f ih =>
    intro l h
    match l with
    | [] => exact List.nodup_nil
    | [x] => simp
    | x :: y :: l =>
      simp only [apart] at h
      cases h0 : apart f (half 0 (x :: y :: l)) with
      | false => rw [h0] at h; cases h
      | true =>
        rw [h0] at h
        exact nodup_of_halves _ (ih _ h0) (ih _ h)
theorem far_apart : apart 40 (halves 8000 1) = true := by decide +kernel
theorem B_zero_of (x : BitVec 32) (h : B x = 0#32) : x = 0#32 := by
  have h31 : (B x).getLsbD 31 = false := by rw [h]; simp
  unfold B at h h31
  have h0 : x.getLsbD 0 = false := by
    cases hx : x.getLsbD 0 with
    | false => rfl
    | true =>
      rw [hx, BitVec.getLsbD_xor, BitVec.getLsbD_ushiftRight, BitVec.getLsbD_of_ge x _ (by omega)] at h31
      simp [poly] at h31
  rw [h0] at h
  simp at h
  apply BitVec.eq_of_toNat_eq
  have h2 : (x >>> 1).toNat = 0 := by rw [h]; rfl
  rw [BitVec.toNat_ushiftRight, Nat.shiftRight_eq_div_pow] at h2
  rw [BitVec.getLsbD, Nat.testBit_zero] at h0
  simp at h0 h2 ⊢
  omega
theorem BN_zero_of (n : Nat) : ∀ x, BN n x = 0#32 → x = 0#32 := by
  induction n with
  | zero => intro x h; exact h
  | succ n ih => intro x h; exact B_zero_of x (ih _ h)
theorem sN_ne (t : Nat) : sN t ≠ 0#32 := by
  intro h
  have := BN_zero_of t _ h
  exact absurd this (by decide)
theorem sN_succ (t : Nat) : (sN (t + 1)).toNat = stepN (sN t).toNat := by
  unfold sN; rw [BN_succ, B_toNat]
theorem halves_eq (n : Nat) : ∀ t, halves n (sN t).toNat = (List.range n).map fun i => (sN (t + 1 + i)).toNat / 2 := by
  induction n with
  | zero => intro t; rfl
  | succ n ih =>
    intro t
    have h := sN_succ t
    have hne : (sN (t + 1)).toNat ≠ 0 := fun e => sN_ne (t + 1) (BitVec.eq_of_toNat_eq (by simpa using e))
    rw [List.range_succ_eq_map, List.map_cons, List.map_map]
    simp only [halves]
    rw [← h]
    obtain ⟨w, hw⟩ : ∃ w, (sN (t + 1)).toNat = w + 1 := ⟨(sN (t + 1)).toNat - 1, by omega⟩
    rw [hw]
    simp only []
    rw [← hw, ih (t + 1)]
    congr 1
    apply List.map_congr_left
    intro i _
    simp only [Function.comp]
    rw [show t + 1 + 1 + i = t + 1 + (i + 1) by omega]
theorem sN_apart (x y : Nat) (hx : 1 ≤ x) (hx' : x ≤ 8000) (hy : 1 ≤ y) (hy' : y ≤ 8000) (h : (sN x).toNat / 2 = (sN y).toNat / 2) : x = y := by
  have hn := nodup_of_apart 40 _ far_apart
  have e := halves_eq 8000 0
  rw [show (sN 0).toNat = 1 from rfl] at e
  rw [e] at hn
  have hl : ((List.range 8000).map fun i => (sN (0 + 1 + i)).toNat / 2).length = 8000 := by simp
  have hp := List.pairwise_iff_getElem.1 hn
  have key : ∀ u v : Nat, 1 ≤ u → u < v → v ≤ 8000 → (sN u).toNat / 2 ≠ (sN v).toNat / 2 := by
    intro u v hu huv hv hh
    refine hp (u - 1) (v - 1) (by rw [hl]; omega) (by rw [hl]; omega) (by omega) ?_
    simp only [List.getElem_map, List.getElem_range]
    rw [show 0 + 1 + (u - 1) = u by omega, show 0 + 1 + (v - 1) = v by omega]
    exact hh
  rcases Nat.lt_trichotomy x y with hlt | heq | hgt
  · exact absurd h (key x y hx hlt hy')
  · exact heq
  · exact absurd h.symm (key y x hy hgt hx')
theorem two_meet (x y : Nat) (hx : 1 ≤ x) (hx' : x ≤ 8000) (hy : 1 ≤ y) (hy' : y ≤ 8000) (h : x ≠ y) : 1#32 ^^^ sN x ^^^ sN y ≠ 0#32 := by
  intro e
  refine h (sN_apart x y hx hx' hy hy' ?_)
  have e1 : sN x = sN y ^^^ 1#32 := by
    have := congrArg (fun z => sN y ^^^ 1#32 ^^^ z) e
    simp only [BitVec.xor_zero] at this
    rw [← this, show sN y ^^^ 1#32 ^^^ (1#32 ^^^ sN x ^^^ sN y) = sN x ^^^ (1#32 ^^^ 1#32) ^^^ (sN y ^^^ sN y) by ac_rfl]
    simp
  have e2 : (sN x >>> 1) = (sN y >>> 1) := by
    rw [e1, BitVec.ushiftRight_xor_distrib]
    simp
  have e3 := congrArg BitVec.toNat e2
  rw [BitVec.toNat_ushiftRight, BitVec.toNat_ushiftRight, Nat.shiftRight_eq_div_pow, Nat.shiftRight_eq_div_pow] at e3
  simpa using e3
theorem three_least (a b c : Nat) (ha : 1 ≤ a) (hb : a ≤ b) (hc : a ≤ c) (hb' : b ≤ 8000) (hc' : c ≤ 8000) : sN a ^^^ sN b ^^^ sN c ≠ 0#32 := by
  by_cases h1 : a = b
  · subst h1; rw [BitVec.xor_self, BitVec.zero_xor]; exact sN_ne c
  · by_cases h2 : a = c
    · subst h2; rw [BitVec.xor_comm (sN a) (sN b), BitVec.xor_assoc, BitVec.xor_self, BitVec.xor_zero]; exact sN_ne b
    · by_cases h3 : b = c
      · subst h3; rw [BitVec.xor_assoc, BitVec.xor_self, BitVec.xor_zero]; exact sN_ne a
      · intro e
        have hb1 : sN b = BN a (sN (b - a)) := by
          unfold sN; rw [← BN_add (b - a) a]; congr 1; omega
        have hc1 : sN c = BN a (sN (c - a)) := by
          unfold sN; rw [← BN_add (c - a) a]; congr 1; omega
        rw [hb1, hc1, show sN a = BN a 1#32 from rfl, ← BN_xor, ← BN_xor] at e
        exact two_meet (b - a) (c - a) (by omega) (by omega) (by omega) (by omega) (by omega) (BN_zero_of a _ e)
theorem three_meet (a b c : Nat) (ha : 1 ≤ a) (hb : 1 ≤ b) (hc : 1 ≤ c) (ha' : a ≤ 8000) (hb' : b ≤ 8000) (hc' : c ≤ 8000) : sN a ^^^ sN b ^^^ sN c ≠ 0#32 := by
  by_cases h1 : a ≤ b
  · by_cases h2 : a ≤ c
    · exact three_least a b c ha h1 h2 hb' hc'
    · rw [show sN a ^^^ sN b ^^^ sN c = sN c ^^^ sN a ^^^ sN b by ac_rfl]
      exact three_least c a b hc (by omega) (by omega) ha' hb'
  · by_cases h2 : b ≤ c
    · rw [show sN a ^^^ sN b ^^^ sN c = sN b ^^^ sN a ^^^ sN c by ac_rfl]
      exact three_least b a c hb (by omega) h2 ha' hc'
    · rw [show sN a ^^^ sN b ^^^ sN c = sN c ^^^ sN a ^^^ sN b by ac_rfl]
      exact three_least c a b hc (by omega) (by omega) ha' hb'

/-! a bit of a row that is turned -/
def flip (l : List (BitVec 8)) (n : Nat) : List (BitVec 8) := l.set (n / 8) (l.getD (n / 8) 0#8 ^^^ 1#8 <<< (n % 8))
theorem flip_length (l : List (BitVec 8)) (n : Nat) : (flip l n).length = l.length := by simp [flip]
theorem row_reg (l : List (BitVec 8)) : ∀ r x, row (r ^^^ x) l = row r l ^^^ BN (8 * l.length) x := by
  induction l with
  | nil => intro r x; rfl
  | cons c l ih =>
    intro r x
    have h : stepB (r ^^^ x) c = stepB r c ^^^ BN 8 x := by
      unfold stepB; rw [← BN_xor]; congr 1; ac_rfl
    show row (stepB (r ^^^ x) c) l = _
    rw [h, ih, List.length_cons, show 8 * (l.length + 1) = 8 + 8 * l.length by omega, BN_add 8]
    rfl
theorem row_set (l : List (BitVec 8)) (m : BitVec 8) : ∀ (q : Nat) (r : BitVec 32), q < l.length → row r (l.set q (l.getD q 0#8 ^^^ m)) = row r l ^^^ BN (8 * (l.length - q)) (m.setWidth 32) := by
  induction l with
  | nil => intro q r h; simp at h
  | cons c l ih =>
    intro q r h
    cases q with
    | zero =>
      have e : stepB r (c ^^^ m) = stepB r c ^^^ BN 8 (m.setWidth 32) := by
        unfold stepB; rw [← BN_xor, BitVec.setWidth_xor]; congr 1; ac_rfl
      show row (stepB r (c ^^^ m)) l = row (stepB r c) l ^^^ _
      rw [e, row_reg, ← BN_add 8]
      congr 2
      rw [List.length_cons]; omega
    | succ q =>
      have := ih q (stepB r c) (by simpa using h)
      rw [List.length_cons, show l.length + 1 - (q + 1) = l.length - q by omega]
      exact this
theorem row_flip (l : List (BitVec 8)) (n : Nat) (r : BitVec 32) (h : n < 8 * l.length) : row r (flip l n) = row r l ^^^ sN (8 * l.length - n) := by
  unfold flip
  rw [row_set l _ (n / 8) r (by omega)]
  have e : (1#8 <<< (n % 8)).setWidth 32 = 1#32 <<< (n % 8) := by
    have : ∀ j : Fin 8, (1#8 <<< j.1).setWidth 32 = 1#32 <<< j.1 := by decide
    exact this ⟨n % 8, Nat.mod_lt _ (by omega)⟩
  have hk : n % 8 ≤ 24 := by omega
  rw [e, show 8 * (l.length - n / 8) = n % 8 + (8 * l.length - n) by omega, BN_add, BN_shl (n % 8) 1#32 hk (by decide)]
  rfl
theorem flips (l : List (BitVec 8)) (a b c : Nat) (hl : l.length ≤ 1000) (ha : a < 8 * l.length) (hb : b < 8 * l.length) (hc : c < 8 * l.length) (r : BitVec 32) :
    row r (flip (flip (flip l a) b) c) ≠ row r l := by
  rw [row_flip _ c r (by rw [flip_length, flip_length]; exact hc), row_flip _ b r (by rw [flip_length]; exact hb), row_flip _ a r ha, flip_length, flip_length, flip_length]
  intro e
  refine three_meet (8 * l.length - a) (8 * l.length - b) (8 * l.length - c) (by omega) (by omega) (by omega) (by omega) (by omega) (by omega) ?_
  have := congrArg (fun z => row r l ^^^ z) e
  simp only [BitVec.xor_self] at this
  rw [← this, show row r l ^^^ (row r l ^^^ sN (8 * l.length - a) ^^^ sN (8 * l.length - b) ^^^ sN (8 * l.length - c)) = (row r l ^^^ row r l) ^^^ (sN (8 * l.length - a) ^^^ sN (8 * l.length - b) ^^^ sN (8 * l.length - c)) by ac_rfl]
  simp

end Go.Proofs.Ytnnhlladcmgmnaa.Math
