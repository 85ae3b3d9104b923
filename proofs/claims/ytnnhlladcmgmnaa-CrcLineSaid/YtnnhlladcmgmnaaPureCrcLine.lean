/-
  The Sum of any bytes (at most 1000; of more nothing is asked but the known examples) is what is left of their line by the document's definition, and what their Steps lead to; the bytes stay.
-/
import Derived.Test.YtnnhlladcmgmnaaPCrcLinex3
import Derived.Test.YtnnhlladcmgmnaaMath
namespace Go.Proofs.Ytnnhlladcmgmnaa.Pure
open Go.RowKit Go.Proofs.Ytnnhlladcmgmnaa.PCrcLine Go.Proofs.YtnnhlladcmgmnaaW.PrintWords Go.Proofs.YtnnhlladcmgmnaaW.PrintLast Go.Proofs.YtnnhlladcmgmnaaW.PrintMore
set_option linter.unusedVariables false
/-! what the printed functions of crc come to, in the words of Math -/
theorem wrap_small {k : IntKind} (hk : k.signed = false) {n : Int} (h0 : 0 ≤ n) (h : n < 2 ^ k.bits) : k.wrap n = n := by
  cases k <;> simp_all [IntKind.wrap, IntKind.signed, IntKind.bits] <;> omega
theorem xor32 (a b : BitVec 32) : Go.bits .xor .u32 (a.toNat : Int) (b.toNat : Int) = ((a ^^^ b).toNat : Int) := by
  have ha : BitVec.ofInt 32 (a.toNat : Int) = a := by apply BitVec.eq_of_toNat_eq; simp
  have hb : BitVec.ofInt 32 (b.toNat : Int) = b := by apply BitVec.eq_of_toNat_eq; simp
  show IntKind.u32.wrap (((BitVec.ofInt 32 (a.toNat : Int)) ^^^ (BitVec.ofInt 32 (b.toNat : Int))).toNat : Int) = _
  rw [ha, hb]
  exact wrap_small rfl (by omega) (by have := (a ^^^ b).isLt; show _ < (2:Int) ^ 32; omega)
theorem not32 (a : BitVec 32) : Go.bits .xor .u32 IntKind.u32.max (a.toNat : Int) = ((~~~a).toNat : Int) := by
  have e : (IntKind.u32.max : Int) = ((BitVec.allOnes 32).toNat : Int) := by decide
  rw [e, xor32]
  rw [BitVec.allOnes_xor]
theorem wrap1 {i : Int} (h0 : 0 ≤ i) (h : i < 1000000) : wrap64 (i + 1) = i + 1 := by unfold wrap64; omega

theorem worn_tab (n : Nat) (hn : n < 16) : crc_worn.f 5 (n : Int) = some ((Math.fourTab.getD n 0 : Nat) : Int) := by
  have h : ∀ m : Fin 16, crc_worn.f 5 ((m.1 : Nat) : Int) = some ((Math.fourTab.getD m.1 0 : Nat) : Int) := by decide +kernel
  exact h ⟨n, hn⟩
theorem worn_four (x : BitVec 32) : crc_worn.f 5 (Int.tmod (x.toNat : Int) 16) = some ((Math.four x).toNat : Int) := by
  have e : Int.tmod (x.toNat : Int) 16 = ((x.toNat % 16 : Nat) : Int) := by
    rw [Int.tmod_eq_emod_of_nonneg (by omega)]; omega
  rw [e, worn_tab _ (Nat.mod_lt _ (by omega)), Math.four_tab]
theorem step_l0 (k : Nat) (hk : 8 ≤ k) (x : BitVec 32) : crc_Step.l0 k (x.toNat : Int) 0 = some ((Math.BN 8 x).toNat : Int) := by
  have one : ∀ (j : Nat) (hj : 5 ≤ j) (y : BitVec 32) (i : Int), i < 2 → crc_Step.l0 (j + 1) (y.toNat : Int) i = crc_Step.l0 j ((Math.BN 4 y).toNat : Int) (wrap64 (i + 1)) := by
    intro j hj y i hi
    simp only [crc_Step.l0]
    rw [if_pos hi, at_rounds (fun k => crc_worn.mono _ k) hj (worn_four y)]
    simp only [Option.bind_some]
    have e : (y.toNat : Int) / (16 : Int) = ((y >>> 4).toNat : Int) := by
      rw [BitVec.toNat_ushiftRight, Nat.shiftRight_eq_div_pow]; omega
    rw [e, xor32, Math.BN4]
  obtain ⟨k, rfl⟩ : ∃ m, k = m + 3 := ⟨k - 3, by omega⟩
  rw [one (k + 2) (by omega) x 0 (by omega), show wrap64 (0 + 1) = 1 from by decide +kernel, one (k + 1) (by omega) _ 1 (by omega), show wrap64 (1 + 1) = 2 from by decide +kernel]
  simp only [crc_Step.l0]
  rw [if_neg (by omega), ← Math.BN8]
theorem step_f (k : Nat) (hk : 8 ≤ k) (r : BitVec 32) (c : BitVec 8) : crc_Step.f k (r.toNat : Int) (c.toNat : Int) = some ((Math.stepB r c).toNat : Int) := by
  unfold crc_Step.f
  have e : ((c.toNat : Int) % 4294967296) = ((c.setWidth 32).toNat : Int) := by
    rw [BitVec.toNat_setWidth]; have := c.isLt; omega
  rw [e, xor32, step_l0 k hk]
  rfl
theorem sum_l0 (l : List (BitVec 8)) (d : Nat) : ∀ (k j : Nat) (r : BitVec 32), l.length < 1000000 → j + d = l.length → d + 9 ≤ k →
    crc_Sum.l0 k (r.toNat : Int) (l.map fun c => (c.toNat : Int)) (l.length : Int) (j : Int) = some ((~~~(Math.row r (l.drop j))).toNat : Int) := by
  induction d with
  | zero =>
    intro k j r hl hj hk
    obtain ⟨k, rfl⟩ : ∃ m, k = m + 1 := ⟨k - 1, by omega⟩
    simp only [crc_Sum.l0]
    rw [if_neg (by omega), not32, List.drop_of_length_le (by omega)]
    rfl
  | succ d ih =>
    intro k j r hl hj hk
    obtain ⟨k, rfl⟩ : ∃ m, k = m + 1 := ⟨k - 1, by omega⟩
    have hlt : j < l.length := by omega
    have hrd : rd (l.map fun c => (c.toNat : Int)) (j : Int) = ((l[j].toNat : Nat) : Int) := by
      unfold rd
      rw [Int.toNat_natCast, List.getD_eq_getElem?_getD, List.getElem?_map, List.getElem?_eq_getElem hlt]
      rfl
    simp only [crc_Sum.l0]
    rw [if_pos (by omega), if_pos (by omega), if_pos (by rw [List.length_map]; omega), hrd, step_f k (by omega)]
    simp only [Option.bind_some]
    rw [wrap1 (by omega) (by omega), show ((j : Int) + 1) = ((j + 1 : Nat) : Int) from rfl, ih k (j + 1) _ hl (by omega) (by omega)]
    rw [List.drop_eq_getElem_cons hlt]
    rfl
theorem sum_f (l : List (BitVec 8)) (hl : l.length < 1000000) (k : Nat) (hk : l.length + 9 ≤ k) :
    crc_Sum.f k (l.map fun c => (c.toNat : Int)) = some ((~~~(Math.row (BitVec.allOnes 32) l)).toNat : Int) := by
  unfold crc_Sum.f
  have h := sum_l0 l l.length k 0 (BitVec.allOnes 32) hl (by omega) hk
  rw [List.drop_zero] at h
  rw [List.length_map]
  exact h
theorem works_f (k : Nat) (hk : 20 ≤ k) : tailracelaw01_works.f k = some true := at_rounds tailracelaw01_works.mono hk works_true
/-- Bytes of the argument, as bytes. -/
theorem bytes_of (l : List Int) (h : ∀ x ∈ l, (Lit.int .u8 x).wf = true) : ∃ b : List (BitVec 8), l = b.map fun c => (c.toNat : Int) := by
  induction l with
  | nil => exact ⟨[], rfl⟩
  | cons x l ih =>
    obtain ⟨b, rfl⟩ := ih (fun y hy => h y (List.mem_cons_of_mem _ hy))
    have hx : 0 ≤ x ∧ x ≤ 255 := by have := h x (List.mem_cons_self ..); simpa [Lit.wf, IntKind.min, IntKind.max, IntKind.signed, IntKind.bits] using this
    refine ⟨BitVec.ofNat 8 x.toNat :: b, ?_⟩
    rw [List.map_cons]
    congr 1
    rw [BitVec.toNat_ofNat]
    omega

/-! what 'left' comes to -/
def T : List Int := [6, 9, 10, 16, 20, 21, 22, 24, 25, 27, 28, 30, 31, 32]
theorem T_rd (j : Nat) (hj : j < 14) : rd T (j : Int) = ((Math.taps.getD j 0 : Nat) : Int) := by
  have h : ∀ i : Fin 14, rd T ((i.1 : Nat) : Int) = ((Math.taps.getD i.1 0 : Nat) : Int) := by decide
  exact h ⟨j, hj⟩
theorem taps_le (j : Nat) : Math.taps.getD j 0 ≤ 32 := by
  by_cases h : j < 14
  · have h' : ∀ i : Fin 14, Math.taps.getD i.1 0 ≤ 32 := by decide
    exact h' ⟨j, h⟩
  · rw [List.getD_eq_getElem?_getD, List.getElem?_eq_none (by show Math.taps.length ≤ j; show 14 ≤ j; omega)]; simp
theorem taps_ge (j : Nat) (hj : j < 14) : 6 ≤ Math.taps.getD j 0 := by
  have h' : ∀ i : Fin 14, 6 ≤ Math.taps.getD i.1 0 := by decide
  exact h' ⟨j, hj⟩
theorem rdOf_nat (L : List Bool) (n : Nat) : rdOf false L (n : Int) = L.getD n false := by unfold rdOf; rw [Int.toNat_natCast]
theorem taps_drop (j : Nat) (hj : j < 14) : Math.taps.drop j = Math.taps.getD j 0 :: Math.taps.drop (j + 1) := by
  have h : ∀ i : Fin 14, Math.taps.drop i.1 = Math.taps.getD i.1 0 :: Math.taps.drop (i.1 + 1) := by decide
  exact h ⟨j, hj⟩
/-- The last 32 bits, as a number. -/
theorem left_l2 (L : List Bool) (m : Nat) (hm : L.length = m + 32) (hb : L.length < 1000000) (d : Nat) : ∀ (k i : Nat), i + d = 32 → d < k →
    tailraceref01_left.l2 k L ((Math.wv L m i : Nat) : Int) (i : Int) = some (((Math.win L m).toNat : Int), L) := by
  have hw : wrap64 ((L.length : Int) - 32) = (m : Int) := by rw [hm]; unfold wrap64; omega
  induction d with
  | zero =>
    intro k i hi hk
    obtain ⟨k, rfl⟩ : ∃ x, k = x + 1 := ⟨k - 1, by omega⟩
    obtain rfl : i = 32 := by omega
    simp only [tailraceref01_left.l2]
    rw [if_neg (by omega), Math.win_toNat]
  | succ d ih =>
    intro k i hi hk
    obtain ⟨k, rfl⟩ : ∃ x, k = x + 1 := ⟨k - 1, by omega⟩
    have hlt : i < 32 := by omega
    have hs : wrap64 ((m : Int) + (i : Int)) = ((m + i : Nat) : Int) := by unfold wrap64; omega
    have hn : wrap64 ((i : Int) + 1) = ((i + 1 : Nat) : Int) := by rw [wrap1 (by omega) (by omega)]; rfl
    simp only [tailraceref01_left.l2]
    rw [if_pos (by omega), hw, hs, if_pos (by omega), if_pos (by omega), hn, rdOf_nat]
    by_cases hbit : L.getD (m + i) false = true
    · rw [if_pos hbit, if_pos (by omega)]
      have hv := Math.wv_lt L m i
      have hp : 2 ^ i ≤ 2 ^ 31 := Nat.pow_le_pow_right (by omega) (by omega)
      have hshl : shl .u32 1 (i : Int) = ((2 ^ i : Nat) : Int) := by
        unfold shl
        rw [Int.toNat_natCast, Nat.min_eq_left (by show i ≤ 32; omega), Int.one_mul]
        rw [wrap_small rfl (by exact Int.pow_nonneg (by omega))]
        · simp
        · show (2:Int) ^ i < 2 ^ 32
          have : ((2 ^ i : Nat) : Int) ≤ ((2 ^ 31 : Nat) : Int) := Int.ofNat_le.2 hp
          simp at this
          omega
      have e : (((Math.wv L m i : Nat) : Int) + shl .u32 1 (i : Int)) % 4294967296 = ((Math.wv L m (i + 1) : Nat) : Int) := by
        rw [hshl]
        simp only [Math.wv]
        rw [if_pos hbit]
        omega
      rw [e]
      exact ih k (i + 1) (by omega) (by omega)
    · rw [if_neg hbit]
      have e : Math.wv L m i = Math.wv L m (i + 1) := by simp only [Math.wv]; rw [if_neg hbit, Nat.add_zero]
      rw [e]
      exact ih k (i + 1) (by omega) (by omega)
/-- One round's turns. -/
theorem left_l1 (n : Nat) (hn : n < 900000) (r : Int × List Bool) (d : Nat) : ∀ (j : Nat) (L : List Bool), j + d = 14 → n + 32 < L.length → L.length < 1000000 → L.getD n false = true →
    Ev (fun k => tailraceref01_left.l0 k (Math.togs n L (Math.taps.drop j)) T ((n + 1 : Nat) : Int)) r → Ev (fun k => tailraceref01_left.l1 k L T (n : Int) (j : Int)) r := by
  have hnx : wrap64 ((n : Int) + 1) = ((n + 1 : Nat) : Int) := by rw [wrap1 (by omega) (by omega)]; rfl
  induction d with
  | zero =>
    intro j L hj hl hb hbit h
    obtain rfl : j = 14 := by omega
    refine Ev.step (f := fun k => tailraceref01_left.l0 k L T ((n + 1 : Nat) : Int)) (fun k => ?_) h
    simp only [tailraceref01_left.l1]
    rw [if_neg (by show ¬ ((14 : Nat) : Int) < ((14 : Nat) : Int); omega), hnx]
  | succ d ih =>
    intro j L hj hl hb hbit h
    have hj14 : j < 14 := by omega
    have ht := taps_le j
    have ht6 := taps_ge j hj14
    have hs : wrap64 ((n : Int) + rd T (j : Int)) = ((n + Math.taps.getD j 0 : Nat) : Int) := by rw [T_rd j hj14]; unfold wrap64; omega
    refine Ev.step (f := fun k => tailraceref01_left.l1 k (Math.tog n L (Math.taps.getD j 0)) T (n : Int) ((j + 1 : Nat) : Int)) (fun k => ?_) ?_
    · simp only [tailraceref01_left.l1]
      rw [if_pos (by show ((j : Nat) : Int) < ((14 : Nat) : Int); omega), if_pos (by omega), if_pos (by omega), rdOf_nat, if_pos hbit, if_pos (by omega), hs, if_pos (by omega), if_pos (by omega),
        wrap1 (by omega) (by omega), rdOf_nat, Int.toNat_natCast]
      rfl
    · refine ih (j + 1) _ (by omega) (by rw [show (Math.tog n L (Math.taps.getD j 0)).length = L.length by simp [Math.tog]]; exact hl) (by rw [show (Math.tog n L (Math.taps.getD j 0)).length = L.length by simp [Math.tog]]; exact hb) ?_ ?_
      · unfold Math.tog
        rw [Math.getD_set _ _ _ _ (by omega), if_neg (by omega)]
        exact hbit
      · rw [taps_drop j hj14] at h
        exact h
theorem left_l0 (m : Nat) (hm : m < 900000) (d : Nat) : ∀ (n : Nat) (L : List Bool), n + d = m → L.length = m + 32 →
    ∃ L', Ev (fun k => tailraceref01_left.l0 k L T (n : Int)) (((Math.fin (Math.win L n) (L.drop (n + 32))).toNat : Int), L') := by
  induction d with
  | zero =>
    intro n L hn hl
    obtain rfl : n = m := by omega
    refine ⟨L, Ev.step (f := fun k => tailraceref01_left.l2 k L 0 0) (fun k => ?_) ⟨33, fun k hk => ?_⟩⟩
    · simp only [tailraceref01_left.l0]
      rw [if_neg (by rw [hl]; unfold wrap64; omega)]
    · rw [List.drop_of_length_le (by omega)]
      exact left_l2 L n hl (by omega) 32 k 0 (by omega) (by omega)
  | succ d ih =>
    intro n L hn hl
    have hw : wrap64 ((L.length : Int) - 32) = (m : Int) := by rw [hl]; unfold wrap64; omega
    have hnx : wrap64 ((n : Int) + 1) = ((n + 1 : Nat) : Int) := by rw [wrap1 (by omega) (by omega)]; rfl
    have h32 : n + 32 < L.length := by omega
    have hd : L.drop (n + 32) = L.getD (n + 32) false :: L.drop (n + 33) := by
      rw [List.drop_eq_getElem_cons h32, List.getD_eq_getElem?_getD, List.getElem?_eq_getElem h32]; rfl
    cases hbit : L.getD n false with
    | true =>
      have hdt : (Math.togs n L Math.taps).drop (n + 33) = L.drop (n + 33) := by
        apply List.ext_getElem?
        intro i
        rw [List.getElem?_drop, List.getElem?_drop]
        have e := Math.togs_getD n Math.taps L (by decide) (fun t ht => by
          have : ∀ t ∈ Math.taps, t ≤ 32 := by decide
          have := this t ht; omega) (n + 33 + i)
        have hc : Math.taps.contains (n + 33 + i - n) = false := by
          rw [show n + 33 + i - n = 33 + i by omega]
          rw [List.contains_eq_any_beq]
          simp [Math.taps]
          omega
        rw [hc, Bool.and_false, Bool.bne_false] at e
        rw [List.getD_eq_getElem?_getD, List.getD_eq_getElem?_getD] at e
        have hlen := Math.togs_length n Math.taps L
        by_cases hi : n + 33 + i < L.length
        · rw [List.getElem?_eq_getElem hi, List.getElem?_eq_getElem (by omega)] at e ⊢
          simpa using e
        · rw [List.getElem?_eq_none (by omega), List.getElem?_eq_none (by omega)]
      obtain ⟨L', h⟩ := ih (n + 1) (Math.togs n L Math.taps) (by omega) (by rw [Math.togs_length]; exact hl)
      rw [Math.win_on L n h32 hbit, show n + 1 + 32 = n + 33 by omega, hdt] at h
      refine ⟨L', ?_⟩
      rw [hd]
      refine Ev.step (f := fun k => tailraceref01_left.l1 k L T (n : Int) ((0 : Nat) : Int)) (fun k => ?_) (left_l1 n (by omega) _ 14 0 L (by omega) h32 (by omega) hbit h)
      simp only [tailraceref01_left.l0]
      rw [hw, if_pos (by omega)]
      rfl
    | false =>
      obtain ⟨L', h⟩ := ih (n + 1) L (by omega) hl
      rw [Math.win_off L n hbit, show n + 1 + 32 = n + 33 by omega] at h
      refine ⟨L', ?_⟩
      rw [hd]
      refine Ev.step (f := fun k => tailraceref01_left.l1 k L T (n : Int) ((0 : Nat) : Int)) (fun k => ?_) (Ev.step (f := fun k => tailraceref01_left.l0 k L T ((n + 1 : Nat) : Int)) (fun k => ?_) h)
      · simp only [tailraceref01_left.l0]
        rw [hw, if_pos (by omega)]
        rfl
      · simp only [tailraceref01_left.l1]
        rw [if_pos (by show ((0 : Nat) : Int) < ((14 : Nat) : Int); omega), if_pos (by omega), if_pos (by omega), rdOf_nat, hbit, if_neg (by simp), hnx]
theorem left_f (m : Nat) (hm : m < 900000) (L : List Bool) (hl : L.length = m + 32) :
    ∃ L', Ev (fun k => tailraceref01_left.f k L) (((Math.fin (Math.win L 0) (L.drop 32)).toNat : Int), L') := by
  obtain ⟨L', h⟩ := left_l0 m hm m 0 L (by omega) hl
  rw [Nat.zero_add] at h
  exact ⟨L', h⟩

theorem bit8 (c : BitVec 8) (i : Nat) (hi : i < 8) : (Go.bits .and .u8 (shr .u8 (c.toNat : Int) (i : Int)) 1 == 1) = c.getLsbD i := by
  have e : shr .u8 (c.toNat : Int) (i : Int) = (((c >>> i).toNat : Nat) : Int) := by
    unfold shr
    rw [Int.toNat_natCast, Nat.min_eq_left (by show i ≤ 8; omega), BitVec.toNat_ushiftRight, Nat.shiftRight_eq_div_pow]
    simp
  rw [e]
  have ha : BitVec.ofInt 8 (((c >>> i).toNat : Nat) : Int) = c >>> i := by generalize c >>> i = y; apply BitVec.eq_of_toNat_eq; simp
  have hv : ((c >>> i) &&& 1#8).toNat = if c.getLsbD i then 1 else 0 := by
    rw [BitVec.toNat_and, show (1#8).toNat = 2 ^ 1 - 1 from rfl, Nat.and_two_pow_sub_one_eq_mod, BitVec.toNat_ushiftRight, BitVec.getLsbD, Nat.testBit, Nat.one_and_eq_mod_two]
    have := Nat.mod_two_eq_zero_or_one (c.toNat >>> i)
    rcases this with h | h <;> simp [h]
  have hb : Go.bits .and .u8 (((c >>> i).toNat : Nat) : Int) 1 = ((if c.getLsbD i then 1 else 0 : Nat) : Int) := by
    show IntKind.u8.wrap (((BitVec.ofInt 8 (((c >>> i).toNat : Nat) : Int)) &&& (BitVec.ofInt 8 1)).toNat : Int) = _
    rw [ha, show BitVec.ofInt 8 1 = 1#8 from rfl, hv]
    refine wrap_small rfl (by omega) ?_
    show _ < (2:Int) ^ 8
    split <;> simp
  rw [hb]
  cases c.getLsbD i <;> rfl

theorem rd_bytes (b : List (BitVec 8)) (j : Nat) (hlt : j < b.length) : rd (b.map fun c => (c.toNat : Int)) (j : Int) = ((b[j].toNat : Nat) : Int) := by
  unfold rd
  rw [Int.toNat_natCast, List.getD_eq_getElem?_getD, List.getElem?_map, List.getElem?_eq_getElem hlt]
  rfl
/-- The first 32 bits are turned, and what is left is told. -/
theorem rsum_l2 (b : List (BitVec 8)) (hb : b.length < 100000) (d : Nat) : ∀ (i : Nat) (L : List Bool), i + d = 32 → L.length = 8 * b.length + 32 →
    (∀ p, L.getD p false = if p < i then !((Math.bitsOf b).getD p false) else (Math.bitsOf b).getD p false) →
    Ev (fun k => tailraceref01_Sum.l2 k L (i : Int)) ((~~~(Math.row (BitVec.allOnes 32) b)).toNat : Int) := by
  induction d with
  | zero =>
    intro i L hi hl h
    obtain rfl : i = 32 := by omega
    obtain ⟨L', hL⟩ := left_f (8 * b.length) (by omega) L hl
    rw [Math.line_left b L hl h] at hL
    refine Ev.step (f := fun k => (tailraceref01_left.f k L).bind fun bt129 => some (Go.bits .xor .u32 IntKind.u32.max bt129.1)) (fun k => ?_) (Ev.bind hL ?_)
    · simp only [tailraceref01_Sum.l2]
      rw [if_neg (by omega)]
    · simp only [not32]
      exact Ev.now _
  | succ d ih =>
    intro i L hi hl h
    have hlt : i < 32 := by omega
    have hnx : wrap64 ((i : Int) + 1) = ((i + 1 : Nat) : Int) := by rw [wrap1 (by omega) (by omega)]; rfl
    refine Ev.step (f := fun k => tailraceref01_Sum.l2 k (L.set i (!L.getD i false)) ((i + 1 : Nat) : Int)) (fun k => ?_) (ih (i + 1) _ (by omega) (by simpa using hl) ?_)
    · simp only [tailraceref01_Sum.l2]
      rw [if_pos (by omega), if_pos (by omega), if_pos (by omega), Int.toNat_natCast, rdOf_nat, hnx]
    · intro p
      rw [Math.getD_set _ _ _ _ (by omega)]
      by_cases hp : p = i
      · subst hp
        rw [if_pos rfl, h p, if_neg (by omega), if_pos (by omega)]
      · rw [if_neg hp, h p]
        by_cases hpi : p < i
        · rw [if_pos hpi, if_pos (by omega)]
        · rw [if_neg hpi, if_neg (by omega)]
theorem rsum_l1 (b : List (BitVec 8)) (hb : b.length < 100000) (i : Nat) (hi : i < b.length) (r : Int) (d : Nat) : ∀ (j : Nat) (L : List Bool), j + d = 8 → L.length = 8 * b.length + 32 →
    (∀ p, L.getD p false = if p < 8 * i + j then (Math.bitsOf b).getD p false else false) →
    (∀ L', L'.length = 8 * b.length + 32 → (∀ p, L'.getD p false = if p < 8 * (i + 1) then (Math.bitsOf b).getD p false else false) → Ev (fun k => tailraceref01_Sum.l0 k (b.map fun c => (c.toNat : Int)) L' ((i + 1 : Nat) : Int)) r) →
    Ev (fun k => tailraceref01_Sum.l1 k (b.map fun c => (c.toNat : Int)) L (i : Int) (j : Int)) r := by
  have hnx : wrap64 ((i : Int) + 1) = ((i + 1 : Nat) : Int) := by rw [wrap1 (by omega) (by omega)]; rfl
  induction d with
  | zero =>
    intro j L hj hl h hr
    obtain rfl : j = 8 := by omega
    refine Ev.step (f := fun k => tailraceref01_Sum.l0 k (b.map fun c => (c.toNat : Int)) L ((i + 1 : Nat) : Int)) (fun k => ?_) (hr L hl ?_)
    · simp only [tailraceref01_Sum.l1]
      rw [if_neg (by omega), hnx]
    · intro p; rw [h p, show 8 * i + 8 = 8 * (i + 1) by omega]
  | succ d ih =>
    intro j L hj hl h hr
    have hj8 : j < 8 := by omega
    have hjx : wrap64 ((j : Int) + 1) = ((j + 1 : Nat) : Int) := by rw [wrap1 (by omega) (by omega)]; rfl
    have h8 : wrap64 (8 * (i : Int)) = ((8 * i : Nat) : Int) := by unfold wrap64; omega
    have hs : wrap64 (((8 * i : Nat) : Int) + (j : Int)) = ((8 * i + j : Nat) : Int) := by unfold wrap64; omega
    refine Ev.step (f := fun k => tailraceref01_Sum.l1 k (b.map fun c => (c.toNat : Int)) (L.set (8 * i + j) (b[i].getLsbD j)) (i : Int) ((j + 1 : Nat) : Int)) (fun k => ?_) (ih (j + 1) (L.set (8 * i + j) (b[i].getLsbD j)) (by omega) (by rw [List.length_set]; exact hl) ?_ hr)
    · simp only [tailraceref01_Sum.l1]
      rw [if_pos (by omega), if_pos (by omega), if_pos (by rw [List.length_map]; omega), if_pos (by omega), h8, hs, if_pos (by omega), if_pos (by omega), Int.toNat_natCast, rd_bytes b i hi, bit8 _ _ hj8, hjx]
    · intro p
      rw [Math.getD_set _ _ _ _ (by omega), h p]
      by_cases hp : p = 8 * i + j
      · subst hp
        rw [if_pos rfl, if_pos (by omega), Math.bitsOf_getD b _ (by omega)]
        rw [show (8 * i + j) / 8 = i by omega, show (8 * i + j) % 8 = j by omega, List.getD_eq_getElem?_getD, List.getElem?_eq_getElem hi]
        rfl
      · rw [if_neg hp]
        by_cases hpi : p < 8 * i + j
        · rw [if_pos hpi, if_pos (by omega)]
        · rw [if_neg hpi, if_neg (by omega)]
theorem rsum_l0 (b : List (BitVec 8)) (hb : b.length < 100000) (d : Nat) : ∀ (i : Nat) (L : List Bool), i + d = b.length → L.length = 8 * b.length + 32 →
    (∀ p, L.getD p false = if p < 8 * i then (Math.bitsOf b).getD p false else false) →
    Ev (fun k => tailraceref01_Sum.l0 k (b.map fun c => (c.toNat : Int)) L (i : Int)) ((~~~(Math.row (BitVec.allOnes 32) b)).toNat : Int) := by
  induction d with
  | zero =>
    intro i L hi hl h
    refine Ev.step (f := fun k => tailraceref01_Sum.l2 k L ((0 : Nat) : Int)) (fun k => ?_) (rsum_l2 b hb 32 0 L (by omega) hl ?_)
    · simp only [tailraceref01_Sum.l0]
      rw [if_neg (by rw [List.length_map]; omega)]
      rfl
    · intro p
      rw [h p, if_neg (show ¬ p < 0 by omega)]
      by_cases hp : p < 8 * i
      · rw [if_pos hp]
      · rw [if_neg hp, Math.getD_none _ _ (by rw [Math.bitsOf_length]; omega)]
  | succ d ih =>
    intro i L hi hl h
    refine Ev.step (f := fun k => tailraceref01_Sum.l1 k (b.map fun c => (c.toNat : Int)) L (i : Int) ((0 : Nat) : Int)) (fun k => ?_) (rsum_l1 b hb i (by omega) _ 8 0 L (by omega) hl (by simpa using h) (fun L' hl' h' => ih (i + 1) L' (by omega) hl' h'))
    simp only [tailraceref01_Sum.l0]
    rw [if_pos (by rw [List.length_map]; omega)]
    rfl
theorem rsum_f (b : List (BitVec 8)) (hb : b.length < 100000) : Ev (fun k => tailraceref01_Sum.f k (b.map fun c => (c.toNat : Int))) ((~~~(Math.row (BitVec.allOnes 32) b)).toNat : Int) := by
  unfold tailraceref01_Sum.f
  have e : wrap64 (wrap64 (8 * (((b.map fun c => (c.toNat : Int)).length : Nat) : Int)) + 32) = ((8 * b.length + 32 : Nat) : Int) := by
    rw [List.length_map]; unfold wrap64; omega
  rw [e]
  have h1 : (0 : Int) ≤ ((8 * b.length + 32 : Nat) : Int) := by omega
  have h2 : 8 * b.length + 32 ≤ 281474976710656 := by omega
  simp only [Int.toNat_natCast, if_pos h1, if_pos h2]
  refine rsum_l0 b hb b.length 0 _ (by omega) (by simp) (fun p => ?_)
  rw [if_neg (by omega), List.getD_eq_getElem?_getD, List.getElem?_replicate]
  split <;> rfl
theorem line_l0 (b : List (BitVec 8)) (hb : b.length < 100000) (d : Nat) : ∀ (j : Nat) (r : BitVec 32), j + d = b.length → Math.row r (b.drop j) = Math.row (BitVec.allOnes 32) b →
    Ev (fun k => tailracelaw01_CrcLine.l0 k (b.map fun c => (c.toNat : Int)) (b.map fun c => (c.toNat : Int)) (r.toNat : Int) (j : Int)) true := by
  induction d with
  | zero =>
    intro j r hj hr
    rw [List.drop_of_length_le (by omega)] at hr
    have hr' : r = Math.row (BitVec.allOnes 32) b := hr
    refine Ev.step (f := fun k => (crc_Sum.f k (b.map fun c => (c.toNat : Int))).bind fun t140 => ((tailraceref01_Sum.f k (b.map fun c => (c.toNat : Int))).bind fun t141 => (if t140 = t141 then (if t140 = (Go.bits .xor .u32 IntKind.u32.max (r.toNat : Int)) then (if (strOfNums (b.map fun c => (c.toNat : Int))).toList = (strOfNums (b.map fun c => (c.toNat : Int))).toList then ((tailracelaw01_works.f k).bind fun t142 => (some t142)) else (some false)) else (some false)) else (some false))))
      (fun k => ?_) (Ev.bind (a := ((~~~(Math.row (BitVec.allOnes 32) b)).toNat : Int)) ⟨b.length + 9, fun k hk => sum_f b (by omega) k hk⟩ (Ev.bind (rsum_f b hb) ?_))
    · simp only [tailracelaw01_CrcLine.l0]
      rw [if_neg (by rw [List.length_map]; omega)]
    · simp only [if_true, hr', not32]
      exact Ev.bind (a := true) ⟨20, fun k hk => works_f k hk⟩ (Ev.now _)
  | succ d ih =>
    intro j r hj hr
    have hlt : j < b.length := by omega
    have hjx : wrap64 ((j : Int) + 1) = ((j + 1 : Nat) : Int) := by rw [wrap1 (by omega) (by omega)]; rfl
    refine Ev.step (f := fun k => (crc_Step.f k (r.toNat : Int) ((b[j].toNat : Nat) : Int)).bind fun t139 => tailracelaw01_CrcLine.l0 k (b.map fun c => (c.toNat : Int)) (b.map fun c => (c.toNat : Int)) t139 ((j + 1 : Nat) : Int))
      (fun k => ?_) (Ev.bind (a := ((Math.stepB r b[j]).toNat : Int)) ⟨8, fun k hk => step_f k hk r b[j]⟩ (ih (j + 1) _ (by omega) ?_))
    · simp only [tailracelaw01_CrcLine.l0]
      rw [if_pos (by rw [List.length_map]; omega), if_pos (by omega), rd_bytes b j hlt, hjx]
    · rw [List.drop_eq_getElem_cons hlt] at hr
      exact hr
theorem CrcLine : tailracelaw01_CrcLine.Pure := by
  intro l0 hm hb hw
  obtain ⟨b, rfl⟩ := bytes_of l0 hw
  refine Ev.rounds ?_
  unfold tailracelaw01_CrcLine.f
  by_cases h : ((b.map fun c => (c.toNat : Int)).length : Int) > 1000
  · simp only [if_pos h]
    exact Ev.bind (a := true) ⟨20, fun k hk => works_f k hk⟩ (Ev.now _)
  · simp only [if_neg h, Option.bind_some, List.nil_append, List.length_nil]
    rw [List.length_map] at h
    have h2 : 0 + (b.map fun c => (c.toNat : Int)).length < 140737488355328 := by rw [List.length_map]; omega
    simp only [if_pos h2]
    exact line_l0 b (by omega) b.length 0 (BitVec.allOnes 32) (by omega) rfl


end Go.Proofs.Ytnnhlladcmgmnaa.Pure
