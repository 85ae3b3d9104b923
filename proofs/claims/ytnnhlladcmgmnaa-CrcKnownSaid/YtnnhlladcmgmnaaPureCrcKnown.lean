/-
  The five laws of crc, for any input, over the printed functions of CrcKnown.
-/
import Derived.Test.YtnnhlladcmgmnaaPCrcKnownx
import Derived.Test.YtnnhlladcmgmnaaMathBits
namespace Go.Proofs.Ytnnhlladcmgmnaa.PureKnown
open Go.RowKit Go.Proofs.Ytnnhlladcmgmnaa.PCrcKnown Go.Proofs.YtnnhlladcmgmnaaW.PrintWords Go.Proofs.YtnnhlladcmgmnaaW.PrintLast Go.Proofs.YtnnhlladcmgmnaaW.PrintMore
set_option linter.unusedVariables false
/-! what the printed functions of crc come to, in the words of Math -/
theorem wrap_small {k : IntKind} (hk : k.signed = false) {n : Int} (h0 : 0 ≤ n) (h : n < 2 ^ k.bits) : k.wrap n = n := by
  cases k <;> simp_all [IntKind.wrap, IntKind.signed, IntKind.bits] <;> omega
theorem xor32 (a b : BitVec 32) : Go.bits .xor .u32 (a.toNat : Int) (b.toNat : Int) = ((a ^^^ b).toNat : Int) := by
  have ha : BitVec.ofInt 32 (a.toNat : Int) = a := by apply BitVec.eq_of_toNat_eq; simp
  have hb : BitVec.ofInt 32 (b.toNat : Int) = b := by apply BitVec.eq_of_toNat_eq; simp
  show IntKind.u32.wrap (((BitVec.ofInt 32 (a.toNat : Int)) ^^^ (BitVec.ofInt 32 (b.toNat : Int))).toNat : Int) = _
  rw [ha, hb]
  exact wrap_small rfl (by omega) (by have := (a ^^^ b).isLt; show _ < (2:Int) ^ 32; omega)
theorem not32 (a : BitVec 32) : Go.bits .xor .u32 IntKind.u32.max (a.toNat : Int) = ((~~~a).toNat : Int) := by
  have e : (IntKind.u32.max : Int) = ((BitVec.allOnes 32).toNat : Int) := by decide
  rw [e, xor32]
  rw [BitVec.allOnes_xor]
theorem wrap1 {i : Int} (h0 : 0 ≤ i) (h : i < 1000000) : wrap64 (i + 1) = i + 1 := by unfold wrap64; omega
theorem worn_tab (n : Nat) (hn : n < 16) : crc_worn.f 5 (n : Int) = some ((Math.fourTab.getD n 0 : Nat) : Int) := by
  have h : ∀ m : Fin 16, crc_worn.f 5 ((m.1 : Nat) : Int) = some ((Math.fourTab.getD m.1 0 : Nat) : Int) := by decide +kernel
  exact h ⟨n, hn⟩
theorem worn_four (x : BitVec 32) : crc_worn.f 5 (Int.tmod (x.toNat : Int) 16) = some ((Math.four x).toNat : Int) := by
  have e : Int.tmod (x.toNat : Int) 16 = ((x.toNat % 16 : Nat) : Int) := by
    rw [Int.tmod_eq_emod_of_nonneg (by omega)]; omega
  rw [e, worn_tab _ (Nat.mod_lt _ (by omega)), Math.four_tab]
theorem step_l0 (k : Nat) (hk : 8 ≤ k) (x : BitVec 32) : crc_Step.l0 k (x.toNat : Int) 0 = some ((Math.BN 8 x).toNat : Int) := by
  have one : ∀ (j : Nat) (hj : 5 ≤ j) (y : BitVec 32) (i : Int), i < 2 → crc_Step.l0 (j + 1) (y.toNat : Int) i = crc_Step.l0 j ((Math.BN 4 y).toNat : Int) (wrap64 (i + 1)) := by
    intro j hj y i hi
    simp only [crc_Step.l0]
    rw [if_pos hi, at_rounds (fun k => crc_worn.mono _ k) hj (worn_four y)]
    simp only [Option.bind_some]
    have e : (y.toNat : Int) / (16 : Int) = ((y >>> 4).toNat : Int) := by
      rw [BitVec.toNat_ushiftRight, Nat.shiftRight_eq_div_pow]; omega
    rw [e, xor32, Math.BN4]
  obtain ⟨k, rfl⟩ : ∃ m, k = m + 3 := ⟨k - 3, by omega⟩
  rw [one (k + 2) (by omega) x 0 (by omega), show wrap64 (0 + 1) = 1 from by decide +kernel, one (k + 1) (by omega) _ 1 (by omega), show wrap64 (1 + 1) = 2 from by decide +kernel]
  simp only [crc_Step.l0]
  rw [if_neg (by omega), ← Math.BN8]
theorem step_f (k : Nat) (hk : 8 ≤ k) (r : BitVec 32) (c : BitVec 8) : crc_Step.f k (r.toNat : Int) (c.toNat : Int) = some ((Math.stepB r c).toNat : Int) := by
  unfold crc_Step.f
  have e : ((c.toNat : Int) % 4294967296) = ((c.setWidth 32).toNat : Int) := by
    rw [BitVec.toNat_setWidth]; have := c.isLt; omega
  rw [e, xor32, step_l0 k hk]
  rfl
theorem sum_l0 (l : List (BitVec 8)) (d : Nat) : ∀ (k j : Nat) (r : BitVec 32), l.length < 1000000 → j + d = l.length → d + 9 ≤ k →
    crc_Sum.l0 k (r.toNat : Int) (l.map fun c => (c.toNat : Int)) (l.length : Int) (j : Int) = some ((~~~(Math.row r (l.drop j))).toNat : Int) := by
  induction d with
  | zero =>
    intro k j r hl hj hk
    obtain ⟨k, rfl⟩ : ∃ m, k = m + 1 := ⟨k - 1, by omega⟩
    simp only [crc_Sum.l0]
    rw [if_neg (by omega), not32, List.drop_of_length_le (by omega)]
    rfl
  | succ d ih =>
    intro k j r hl hj hk
    obtain ⟨k, rfl⟩ : ∃ m, k = m + 1 := ⟨k - 1, by omega⟩
    have hlt : j < l.length := by omega
    have hrd : rd (l.map fun c => (c.toNat : Int)) (j : Int) = ((l[j].toNat : Nat) : Int) := by
      unfold rd
      rw [Int.toNat_natCast, List.getD_eq_getElem?_getD, List.getElem?_map, List.getElem?_eq_getElem hlt]
      rfl
    simp only [crc_Sum.l0]
    rw [if_pos (by omega), if_pos (by omega), if_pos (by rw [List.length_map]; omega), hrd, step_f k (by omega)]
    simp only [Option.bind_some]
    rw [wrap1 (by omega) (by omega), show ((j : Int) + 1) = ((j + 1 : Nat) : Int) from rfl, ih k (j + 1) _ hl (by omega) (by omega)]
    rw [List.drop_eq_getElem_cons hlt]
    rfl
theorem sum_f (l : List (BitVec 8)) (hl : l.length < 1000000) (k : Nat) (hk : l.length + 9 ≤ k) :
    crc_Sum.f k (l.map fun c => (c.toNat : Int)) = some ((~~~(Math.row (BitVec.allOnes 32) l)).toNat : Int) := by
  unfold crc_Sum.f
  have h := sum_l0 l l.length k 0 (BitVec.allOnes 32) hl (by omega) hk
  rw [List.drop_zero] at h
  rw [List.length_map]
  exact h
theorem works_f (k : Nat) (hk : 20 ≤ k) : tailracelaw01_works.f k = some true := at_rounds tailracelaw01_works.mono hk works_true
/-- Bytes of the argument, as bytes. -/
theorem bytes_of (l : List Int) (h : ∀ x ∈ l, (Lit.int .u8 x).wf = true) : ∃ b : List (BitVec 8), l = b.map fun c => (c.toNat : Int) := by
  induction l with
  | nil => exact ⟨[], rfl⟩
  | cons x l ih =>
    obtain ⟨b, rfl⟩ := ih (fun y hy => h y (List.mem_cons_of_mem _ hy))
    have hx : 0 ≤ x ∧ x ≤ 255 := by have := h x (List.mem_cons_self ..); simpa [Lit.wf, IntKind.min, IntKind.max, IntKind.signed, IntKind.bits] using this
    refine ⟨BitVec.ofNat 8 x.toNat :: b, ?_⟩
    rw [List.map_cons]
    congr 1
    rw [BitVec.toNat_ofNat]
    omega
/-! what 'left' comes to -/
def T : List Int := [6, 9, 10, 16, 20, 21, 22, 24, 25, 27, 28, 30, 31, 32]
theorem T_rd (j : Nat) (hj : j < 14) : rd T (j : Int) = ((Math.taps.getD j 0 : Nat) : Int) := by
  have h : ∀ i : Fin 14, rd T ((i.1 : Nat) : Int) = ((Math.taps.getD i.1 0 : Nat) : Int) := by decide
  exact h ⟨j, hj⟩
theorem taps_le (j : Nat) : Math.taps.getD j 0 ≤ 32 := by
  by_cases h : j < 14
  · have h' : ∀ i : Fin 14, Math.taps.getD i.1 0 ≤ 32 := by decide
    exact h' ⟨j, h⟩
  · rw [List.getD_eq_getElem?_getD, List.getElem?_eq_none (by show Math.taps.length ≤ j; show 14 ≤ j; omega)]; simp
theorem taps_ge (j : Nat) (hj : j < 14) : 6 ≤ Math.taps.getD j 0 := by
  have h' : ∀ i : Fin 14, 6 ≤ Math.taps.getD i.1 0 := by decide
  exact h' ⟨j, hj⟩
theorem rdOf_nat (L : List Bool) (n : Nat) : rdOf false L (n : Int) = L.getD n false := by unfold rdOf; rw [Int.toNat_natCast]
theorem taps_drop (j : Nat) (hj : j < 14) : Math.taps.drop j = Math.taps.getD j 0 :: Math.taps.drop (j + 1) := by
  have h : ∀ i : Fin 14, Math.taps.drop i.1 = Math.taps.getD i.1 0 :: Math.taps.drop (i.1 + 1) := by decide
  exact h ⟨j, hj⟩
/-- The last 32 bits, as a number. -/
theorem left_l2 (L : List Bool) (m : Nat) (hm : L.length = m + 32) (hb : L.length < 1000000) (d : Nat) : ∀ (k i : Nat), i + d = 32 → d < k →
    tailraceref01_left.l2 k L ((Math.wv L m i : Nat) : Int) (i : Int) = some (((Math.win L m).toNat : Int), L) := by
  have hw : wrap64 ((L.length : Int) - 32) = (m : Int) := by rw [hm]; unfold wrap64; omega
  induction d with
  | zero =>
    intro k i hi hk
    obtain ⟨k, rfl⟩ : ∃ x, k = x + 1 := ⟨k - 1, by omega⟩
    obtain rfl : i = 32 := by omega
    simp only [tailraceref01_left.l2]
    rw [if_neg (by omega), Math.win_toNat]
  | succ d ih =>
    intro k i hi hk
    obtain ⟨k, rfl⟩ : ∃ x, k = x + 1 := ⟨k - 1, by omega⟩
    have hlt : i < 32 := by omega
    have hs : wrap64 ((m : Int) + (i : Int)) = ((m + i : Nat) : Int) := by unfold wrap64; omega
    have hn : wrap64 ((i : Int) + 1) = ((i + 1 : Nat) : Int) := by rw [wrap1 (by omega) (by omega)]; rfl
    simp only [tailraceref01_left.l2]
    rw [if_pos (by omega), hw, hs, if_pos (by omega), if_pos (by omega), hn, rdOf_nat]
    by_cases hbit : L.getD (m + i) false = true
    · rw [if_pos hbit, if_pos (by omega)]
      have hv := Math.wv_lt L m i
      have hp : 2 ^ i ≤ 2 ^ 31 := Nat.pow_le_pow_right (by omega) (by omega)
      have hshl : shl .u32 1 (i : Int) = ((2 ^ i : Nat) : Int) := by
        unfold shl
        rw [Int.toNat_natCast, Nat.min_eq_left (by show i ≤ 32; omega), Int.one_mul]
        rw [wrap_small rfl (by exact Int.pow_nonneg (by omega))]
        · simp
        · show (2:Int) ^ i < 2 ^ 32
          have : ((2 ^ i : Nat) : Int) ≤ ((2 ^ 31 : Nat) : Int) := Int.ofNat_le.2 hp
          simp at this
          omega
      have e : (((Math.wv L m i : Nat) : Int) + shl .u32 1 (i : Int)) % 4294967296 = ((Math.wv L m (i + 1) : Nat) : Int) := by
        rw [hshl]
        simp only [Math.wv]
        rw [if_pos hbit]
        omega
      rw [e]
      exact ih k (i + 1) (by omega) (by omega)
    · rw [if_neg hbit]
      have e : Math.wv L m i = Math.wv L m (i + 1) := by simp only [Math.wv]; rw [if_neg hbit, Nat.add_zero]
      rw [e]
      exact ih k (i + 1) (by omega) (by omega)
/-- One round's turns. -/
theorem left_l1 (n : Nat) (hn : n < 900000) (r : Int × List Bool) (d : Nat) : ∀ (j : Nat) (L : List Bool), j + d = 14 → n + 32 < L.length → L.length < 1000000 → L.getD n false = true →
    Ev (fun k => tailraceref01_left.l0 k (Math.togs n L (Math.taps.drop j)) T ((n + 1 : Nat) : Int)) r → Ev (fun k => tailraceref01_left.l1 k L T (n : Int) (j : Int)) r := by
  have hnx : wrap64 ((n : Int) + 1) = ((n + 1 : Nat) : Int) := by rw [wrap1 (by omega) (by omega)]; rfl
  induction d with
  | zero =>
    intro j L hj hl hb hbit h
    obtain rfl : j = 14 := by omega
    refine Ev.step (f := fun k => tailraceref01_left.l0 k L T ((n + 1 : Nat) : Int)) (fun k => ?_) h
    simp only [tailraceref01_left.l1]
    rw [if_neg (by show ¬ ((14 : Nat) : Int) < ((14 : Nat) : Int); omega), hnx]
  | succ d ih =>
    intro j L hj hl hb hbit h
    have hj14 : j < 14 := by omega
    have ht := taps_le j
    have ht6 := taps_ge j hj14
    have hs : wrap64 ((n : Int) + rd T (j : Int)) = ((n + Math.taps.getD j 0 : Nat) : Int) := by rw [T_rd j hj14]; unfold wrap64; omega
    refine Ev.step (f := fun k => tailraceref01_left.l1 k (Math.tog n L (Math.taps.getD j 0)) T (n : Int) ((j + 1 : Nat) : Int)) (fun k => ?_) ?_
    · simp only [tailraceref01_left.l1]
      rw [if_pos (by show ((j : Nat) : Int) < ((14 : Nat) : Int); omega), if_pos (by omega), if_pos (by omega), rdOf_nat, if_pos hbit, if_pos (by omega), hs, if_pos (by omega), if_pos (by omega),
        wrap1 (by omega) (by omega), rdOf_nat, Int.toNat_natCast]
      rfl
    · refine ih (j + 1) _ (by omega) (by rw [show (Math.tog n L (Math.taps.getD j 0)).length = L.length by simp [Math.tog]]; exact hl) (by rw [show (Math.tog n L (Math.taps.getD j 0)).length = L.length by simp [Math.tog]]; exact hb) ?_ ?_
      · unfold Math.tog
        rw [Math.getD_set _ _ _ _ (by omega), if_neg (by omega)]
        exact hbit
      · rw [taps_drop j hj14] at h
        exact h
theorem left_l0 (m : Nat) (hm : m < 900000) (d : Nat) : ∀ (n : Nat) (L : List Bool), n + d = m → L.length = m + 32 →
    ∃ L', Ev (fun k => tailraceref01_left.l0 k L T (n : Int)) (((Math.fin (Math.win L n) (L.drop (n + 32))).toNat : Int), L') := by
  induction d with
  | zero =>
    intro n L hn hl
    obtain rfl : n = m := by omega
    refine ⟨L, Ev.step (f := fun k => tailraceref01_left.l2 k L 0 0) (fun k => ?_) ⟨33, fun k hk => ?_⟩⟩
    · simp only [tailraceref01_left.l0]
      rw [if_neg (by rw [hl]; unfold wrap64; omega)]
    · rw [List.drop_of_length_le (by omega)]
      exact left_l2 L n hl (by omega) 32 k 0 (by omega) (by omega)
  | succ d ih =>
    intro n L hn hl
    have hw : wrap64 ((L.length : Int) - 32) = (m : Int) := by rw [hl]; unfold wrap64; omega
    have hnx : wrap64 ((n : Int) + 1) = ((n + 1 : Nat) : Int) := by rw [wrap1 (by omega) (by omega)]; rfl
    have h32 : n + 32 < L.length := by omega
    have hd : L.drop (n + 32) = L.getD (n + 32) false :: L.drop (n + 33) := by
      rw [List.drop_eq_getElem_cons h32, List.getD_eq_getElem?_getD, List.getElem?_eq_getElem h32]; rfl
    cases hbit : L.getD n false with
    | true =>
      have hdt : (Math.togs n L Math.taps).drop (n + 33) = L.drop (n + 33) := by
        apply List.ext_getElem?
        intro i
        rw [List.getElem?_drop, List.getElem?_drop]
        have e := Math.togs_getD n Math.taps L (by decide) (fun t ht => by
          have : ∀ t ∈ Math.taps, t ≤ 32 := by decide
          have := this t ht; omega) (n + 33 + i)
        have hc : Math.taps.contains (n + 33 + i - n) = false := by
          rw [show n + 33 + i - n = 33 + i by omega]
          rw [List.contains_eq_any_beq]
          simp [Math.taps]
          omega
        rw [hc, Bool.and_false, Bool.bne_false] at e
        rw [List.getD_eq_getElem?_getD, List.getD_eq_getElem?_getD] at e
        have hlen := Math.togs_length n Math.taps L
        by_cases hi : n + 33 + i < L.length
        · rw [List.getElem?_eq_getElem hi, List.getElem?_eq_getElem (by omega)] at e ⊢
          simpa using e
        · rw [List.getElem?_eq_none (by omega), List.getElem?_eq_none (by omega)]
      obtain ⟨L', h⟩ := ih (n + 1) (Math.togs n L Math.taps) (by omega) (by rw [Math.togs_length]; exact hl)
      rw [Math.win_on L n h32 hbit, show n + 1 + 32 = n + 33 by omega, hdt] at h
      refine ⟨L', ?_⟩
      rw [hd]
      refine Ev.step (f := fun k => tailraceref01_left.l1 k L T (n : Int) ((0 : Nat) : Int)) (fun k => ?_) (left_l1 n (by omega) _ 14 0 L (by omega) h32 (by omega) hbit h)
      simp only [tailraceref01_left.l0]
      rw [hw, if_pos (by omega)]
      rfl
    | false =>
      obtain ⟨L', h⟩ := ih (n + 1) L (by omega) hl
      rw [Math.win_off L n hbit, show n + 1 + 32 = n + 33 by omega] at h
      refine ⟨L', ?_⟩
      rw [hd]
      refine Ev.step (f := fun k => tailraceref01_left.l1 k L T (n : Int) ((0 : Nat) : Int)) (fun k => ?_) (Ev.step (f := fun k => tailraceref01_left.l0 k L T ((n + 1 : Nat) : Int)) (fun k => ?_) h)
      · simp only [tailraceref01_left.l0]
        rw [hw, if_pos (by omega)]
        rfl
      · simp only [tailraceref01_left.l1]
        rw [if_pos (by show ((0 : Nat) : Int) < ((14 : Nat) : Int); omega), if_pos (by omega), if_pos (by omega), rdOf_nat, hbit, if_neg (by simp), hnx]
theorem left_f (m : Nat) (hm : m < 900000) (L : List Bool) (hl : L.length = m + 32) :
    ∃ L', Ev (fun k => tailraceref01_left.f k L) (((Math.fin (Math.win L 0) (L.drop 32)).toNat : Int), L') := by
  obtain ⟨L', h⟩ := left_l0 m hm m 0 L (by omega) hl
  rw [Nat.zero_add] at h
  exact ⟨L', h⟩
theorem bit32 (r : BitVec 32) (i : Nat) (hi : i < 32) : (Go.bits .and .u32 (shr .u32 (r.toNat : Int) (i : Int)) 1 == 1) = r.getLsbD i := by
  have e : shr .u32 (r.toNat : Int) (i : Int) = (((r >>> i).toNat : Nat) : Int) := by
    unfold shr
    rw [Int.toNat_natCast, Nat.min_eq_left (by show i ≤ 32; omega), BitVec.toNat_ushiftRight, Nat.shiftRight_eq_div_pow]
    simp
  rw [e]
  have ha : BitVec.ofInt 32 (((r >>> i).toNat : Nat) : Int) = r >>> i := by generalize r >>> i = y; apply BitVec.eq_of_toNat_eq; simp
  have hv : ((r >>> i) &&& 1#32).toNat = if r.getLsbD i then 1 else 0 := by
    rw [BitVec.toNat_and, show (1#32).toNat = 2 ^ 1 - 1 from rfl, Nat.and_two_pow_sub_one_eq_mod, BitVec.toNat_ushiftRight, BitVec.getLsbD, Nat.testBit, Nat.one_and_eq_mod_two]
    have := Nat.mod_two_eq_zero_or_one (r.toNat >>> i)
    rcases this with h | h <;> simp [h]
  have hb : Go.bits .and .u32 (((r >>> i).toNat : Nat) : Int) 1 = ((if r.getLsbD i then 1 else 0 : Nat) : Int) := by
    show IntKind.u32.wrap (((BitVec.ofInt 32 (((r >>> i).toNat : Nat) : Int)) &&& (BitVec.ofInt 32 1)).toNat : Int) = _
    rw [ha, show BitVec.ofInt 32 1 = 1#32 from rfl, hv]
    refine wrap_small rfl (by omega) ?_
    show _ < (2:Int) ^ 32
    split <;> simp
  rw [hb]
  cases r.getLsbD i <;> rfl
theorem bit8 (c : BitVec 8) (i : Nat) (hi : i < 8) : (Go.bits .and .u8 (shr .u8 (c.toNat : Int) (i : Int)) 1 == 1) = c.getLsbD i := by
  have e : shr .u8 (c.toNat : Int) (i : Int) = (((c >>> i).toNat : Nat) : Int) := by
    unfold shr
    rw [Int.toNat_natCast, Nat.min_eq_left (by show i ≤ 8; omega), BitVec.toNat_ushiftRight, Nat.shiftRight_eq_div_pow]
    simp
  rw [e]
  have ha : BitVec.ofInt 8 (((c >>> i).toNat : Nat) : Int) = c >>> i := by generalize c >>> i = y; apply BitVec.eq_of_toNat_eq; simp
  have hv : ((c >>> i) &&& 1#8).toNat = if c.getLsbD i then 1 else 0 := by
    rw [BitVec.toNat_and, show (1#8).toNat = 2 ^ 1 - 1 from rfl, Nat.and_two_pow_sub_one_eq_mod, BitVec.toNat_ushiftRight, BitVec.getLsbD, Nat.testBit, Nat.one_and_eq_mod_two]
    have := Nat.mod_two_eq_zero_or_one (c.toNat >>> i)
    rcases this with h | h <;> simp [h]
  have hb : Go.bits .and .u8 (((c >>> i).toNat : Nat) : Int) 1 = ((if c.getLsbD i then 1 else 0 : Nat) : Int) := by
    show IntKind.u8.wrap (((BitVec.ofInt 8 (((c >>> i).toNat : Nat) : Int)) &&& (BitVec.ofInt 8 1)).toNat : Int) = _
    rw [ha, show BitVec.ofInt 8 1 = 1#8 from rfl, hv]
    refine wrap_small rfl (by omega) ?_
    show _ < (2:Int) ^ 8
    split <;> simp
  rw [hb]
  cases c.getLsbD i <;> rfl
/-- The line that ref's Step makes. -/
theorem rstep_l0 (r : BitVec 32) (c : BitVec 8) (d : Nat) : ∀ (i : Nat) (L : List Bool), i + d = 32 → L.length = 40 →
    (∀ p, L.getD p false = if p < i then (r ^^^ c.setWidth 32).getLsbD p else false) →
    Ev (fun k => tailraceref01_Step.l0 k (r.toNat : Int) (c.toNat : Int) L (i : Int)) ((Math.stepB r c).toNat : Int) := by
  induction d with
  | zero =>
    intro i L hi hl h
    obtain rfl : i = 32 := by omega
    obtain ⟨L', hL⟩ := left_f 8 (by omega) L hl
    have e : Math.fin (Math.win L 0) (L.drop 32) = Math.stepB r c := by
      have hw : Math.win L 0 = r ^^^ c.setWidth 32 := by
        apply Math.win_ext
        intro i hi
        rw [Nat.zero_add, h i, if_pos hi]
      have hd : L.drop 32 = List.replicate 8 false := by
        apply List.ext_getElem?
        intro i
        rw [List.getElem?_drop, List.getElem?_replicate]
        by_cases h8 : i < 8
        · have := h (32 + i)
          rw [if_neg (by omega), List.getD_eq_getElem?_getD, List.getElem?_eq_getElem (by omega)] at this
          rw [List.getElem?_eq_getElem (by omega), if_pos h8]
          simpa using this
        · rw [List.getElem?_eq_none (by omega), if_neg h8]
      rw [hw, hd, Math.fin_zeros]
      rfl
    rw [e] at hL
    refine Ev.step (f := fun k => (tailraceref01_left.f k L).bind fun bt120 => some bt120.1) (fun k => ?_) (Ev.bind hL (Ev.now _))
    simp only [tailraceref01_Step.l0]
    rw [if_neg (by omega)]
  | succ d ih =>
    intro i L hi hl h
    have hlt : i < 32 := by omega
    have hnx : wrap64 ((i : Int) + 1) = ((i + 1 : Nat) : Int) := by rw [wrap1 (by omega) (by omega)]; rfl
    have h1 : (L.set i (r.getLsbD i)).length = 40 := by simpa using hl
    by_cases h8 : i < 8
    · refine Ev.step (f := fun k => tailraceref01_Step.l0 k (r.toNat : Int) (c.toNat : Int) ((L.set i (r.getLsbD i)).set i (r.getLsbD i != c.getLsbD i)) ((i + 1 : Nat) : Int)) (fun k => ?_) (ih (i + 1) _ (by omega) (by simpa using hl) ?_)
      · simp only [tailraceref01_Step.l0]
        rw [if_pos (by omega), if_pos (by omega), if_pos (by omega)]
        simp only [Option.bind_some]
        rw [if_pos (by omega), Int.toNat_natCast, rdOf_nat, bit32 r i hlt, bit8 c i h8, hnx, Math.getD_set _ _ _ _ (by omega), if_pos rfl]
      · intro p
        rw [Math.getD_set _ _ _ _ (by omega), Math.getD_set _ _ _ _ (by omega), h p]
        by_cases hp : p = i
        · subst hp
          rw [if_pos rfl, if_pos (by omega), BitVec.getLsbD_xor, BitVec.getLsbD_setWidth]
          simp [hlt]
        · rw [if_neg hp, if_neg hp]
          by_cases hpi : p < i
          · rw [if_pos hpi, if_pos (by omega)]
          · rw [if_neg hpi, if_neg (by omega)]
    · refine Ev.step (f := fun k => tailraceref01_Step.l0 k (r.toNat : Int) (c.toNat : Int) (L.set i (r.getLsbD i)) ((i + 1 : Nat) : Int)) (fun k => ?_) (ih (i + 1) _ (by omega) (by simpa using hl) ?_)
      · simp only [tailraceref01_Step.l0]
        rw [if_pos (by omega), if_pos (by omega), if_pos (by omega)]
        simp only [Option.bind_some]
        rw [if_neg (by omega), Int.toNat_natCast, bit32 r i hlt, hnx]
      · intro p
        rw [Math.getD_set _ _ _ _ (by omega), h p]
        by_cases hp : p = i
        · subst hp
          rw [if_pos rfl, if_pos (by omega), BitVec.getLsbD_xor, BitVec.getLsbD_setWidth, BitVec.getLsbD_of_ge c _ (by omega)]
          simp
        · rw [if_neg hp]
          by_cases hpi : p < i
          · rw [if_pos hpi, if_pos (by omega)]
          · rw [if_neg hpi, if_neg (by omega)]
theorem rstep_f (r : BitVec 32) (c : BitVec 8) : Ev (fun k => tailraceref01_Step.f k (r.toNat : Int) (c.toNat : Int)) ((Math.stepB r c).toNat : Int) := by
  unfold tailraceref01_Step.f
  simp only [show (40 : Nat) ≤ 281474976710656 from by omega, if_true]
  refine rstep_l0 r c 32 0 _ (by omega) (by simp) (fun p => ?_)
  rw [if_neg (by omega), List.getD_eq_getElem?_getD, List.getElem?_replicate]
  split <;> rfl
def CrcTurns.Pure : Prop := ∀ (a0 : Int) (a1 : Int), (Lit.int .u32 a0).wf = true → (Lit.int .u8 a1).wf = true → ∃ k, tailracelaw01_CrcTurns.f k a0 a1 = some true
theorem CrcTurns : CrcTurns.Pure := by
  intro a0 a1 h0 h1
  have hx : 0 ≤ a0 ∧ a0 ≤ 4294967295 := by simpa [Lit.wf, IntKind.min, IntKind.max, IntKind.signed, IntKind.bits] using h0
  have hy : 0 ≤ a1 ∧ a1 ≤ 255 := by simpa [Lit.wf, IntKind.min, IntKind.max, IntKind.signed, IntKind.bits] using h1
  obtain ⟨r, rfl⟩ : ∃ r : BitVec 32, a0 = (r.toNat : Int) := ⟨BitVec.ofNat 32 a0.toNat, by rw [BitVec.toNat_ofNat]; omega⟩
  obtain ⟨c, rfl⟩ : ∃ c : BitVec 8, a1 = (c.toNat : Int) := ⟨BitVec.ofNat 8 a1.toNat, by rw [BitVec.toNat_ofNat]; omega⟩
  refine Ev.rounds (Ev.bind (a := ((Math.stepB r c).toNat : Int)) ⟨8, fun k hk => step_f k hk r c⟩ (Ev.bind (rstep_f r c) ?_))
  simp only [if_true]
  exact Ev.bind (a := true) ⟨20, fun k hk => works_f k hk⟩ (Ev.now _)
theorem rd_bytes (b : List (BitVec 8)) (j : Nat) (hlt : j < b.length) : rd (b.map fun c => (c.toNat : Int)) (j : Int) = ((b[j].toNat : Nat) : Int) := by
  unfold rd
  rw [Int.toNat_natCast, List.getD_eq_getElem?_getD, List.getElem?_map, List.getElem?_eq_getElem hlt]
  rfl
/-- The first 32 bits are turned, and what is left is told. -/
theorem rsum_l2 (b : List (BitVec 8)) (hb : b.length < 100000) (d : Nat) : ∀ (i : Nat) (L : List Bool), i + d = 32 → L.length = 8 * b.length + 32 →
    (∀ p, L.getD p false = if p < i then !((Math.bitsOf b).getD p false) else (Math.bitsOf b).getD p false) →
    Ev (fun k => tailraceref01_Sum.l2 k L (i : Int)) ((~~~(Math.row (BitVec.allOnes 32) b)).toNat : Int) := by
  induction d with
  | zero =>
    intro i L hi hl h
    obtain rfl : i = 32 := by omega
    obtain ⟨L', hL⟩ := left_f (8 * b.length) (by omega) L hl
    rw [Math.line_left b L hl h] at hL
    refine Ev.step (f := fun k => (tailraceref01_left.f k L).bind fun bt129 => some (Go.bits .xor .u32 IntKind.u32.max bt129.1)) (fun k => ?_) (Ev.bind hL ?_)
    · simp only [tailraceref01_Sum.l2]
      rw [if_neg (by omega)]
    · simp only [not32]
      exact Ev.now _
  | succ d ih =>
    intro i L hi hl h
    have hlt : i < 32 := by omega
    have hnx : wrap64 ((i : Int) + 1) = ((i + 1 : Nat) : Int) := by rw [wrap1 (by omega) (by omega)]; rfl
    refine Ev.step (f := fun k => tailraceref01_Sum.l2 k (L.set i (!L.getD i false)) ((i + 1 : Nat) : Int)) (fun k => ?_) (ih (i + 1) _ (by omega) (by simpa using hl) ?_)
    · simp only [tailraceref01_Sum.l2]
      rw [if_pos (by omega), if_pos (by omega), if_pos (by omega), Int.toNat_natCast, rdOf_nat, hnx]
    · intro p
      rw [Math.getD_set _ _ _ _ (by omega)]
      by_cases hp : p = i
      · subst hp
        rw [if_pos rfl, h p, if_neg (by omega), if_pos (by omega)]
      · rw [if_neg hp, h p]
        by_cases hpi : p < i
        · rw [if_pos hpi, if_pos (by omega)]
        · rw [if_neg hpi, if_neg (by omega)]
theorem rsum_l1 (b : List (BitVec 8)) (hb : b.length < 100000) (i : Nat) (hi : i < b.length) (r : Int) (d : Nat) : ∀ (j : Nat) (L : List Bool), j + d = 8 → L.length = 8 * b.length + 32 →
    (∀ p, L.getD p false = if p < 8 * i + j then (Math.bitsOf b).getD p false else false) →
    (∀ L', L'.length = 8 * b.length + 32 → (∀ p, L'.getD p false = if p < 8 * (i + 1) then (Math.bitsOf b).getD p false else false) → Ev (fun k => tailraceref01_Sum.l0 k (b.map fun c => (c.toNat : Int)) L' ((i + 1 : Nat) : Int)) r) →
    Ev (fun k => tailraceref01_Sum.l1 k (b.map fun c => (c.toNat : Int)) L (i : Int) (j : Int)) r := by
  have hnx : wrap64 ((i : Int) + 1) = ((i + 1 : Nat) : Int) := by rw [wrap1 (by omega) (by omega)]; rfl
  induction d with
  | zero =>
    intro j L hj hl h hr
    obtain rfl : j = 8 := by omega
    refine Ev.step (f := fun k => tailraceref01_Sum.l0 k (b.map fun c => (c.toNat : Int)) L ((i + 1 : Nat) : Int)) (fun k => ?_) (hr L hl ?_)
    · simp only [tailraceref01_Sum.l1]
      rw [if_neg (by omega), hnx]
    · intro p; rw [h p, show 8 * i + 8 = 8 * (i + 1) by omega]
  | succ d ih =>
    intro j L hj hl h hr
    have hj8 : j < 8 := by omega
    have hjx : wrap64 ((j : Int) + 1) = ((j + 1 : Nat) : Int) := by rw [wrap1 (by omega) (by omega)]; rfl
    have h8 : wrap64 (8 * (i : Int)) = ((8 * i : Nat) : Int) := by unfold wrap64; omega
    have hs : wrap64 (((8 * i : Nat) : Int) + (j : Int)) = ((8 * i + j : Nat) : Int) := by unfold wrap64; omega
    refine Ev.step (f := fun k => tailraceref01_Sum.l1 k (b.map fun c => (c.toNat : Int)) (L.set (8 * i + j) (b[i].getLsbD j)) (i : Int) ((j + 1 : Nat) : Int)) (fun k => ?_) (ih (j + 1) (L.set (8 * i + j) (b[i].getLsbD j)) (by omega) (by rw [List.length_set]; exact hl) ?_ hr)
    · simp only [tailraceref01_Sum.l1]
      rw [if_pos (by omega), if_pos (by omega), if_pos (by rw [List.length_map]; omega), if_pos (by omega), h8, hs, if_pos (by omega), if_pos (by omega), Int.toNat_natCast, rd_bytes b i hi, bit8 _ _ hj8, hjx]
    · intro p
      rw [Math.getD_set _ _ _ _ (by omega), h p]
      by_cases hp : p = 8 * i + j
      · subst hp
        rw [if_pos rfl, if_pos (by omega), Math.bitsOf_getD b _ (by omega)]
        rw [show (8 * i + j) / 8 = i by omega, show (8 * i + j) % 8 = j by omega, List.getD_eq_getElem?_getD, List.getElem?_eq_getElem hi]
        rfl
      · rw [if_neg hp]
        by_cases hpi : p < 8 * i + j
        · rw [if_pos hpi, if_pos (by omega)]
        · rw [if_neg hpi, if_neg (by omega)]
theorem rsum_l0 (b : List (BitVec 8)) (hb : b.length < 100000) (d : Nat) : ∀ (i : Nat) (L : List Bool), i + d = b.length → L.length = 8 * b.length + 32 →
    (∀ p, L.getD p false = if p < 8 * i then (Math.bitsOf b).getD p false else false) →
    Ev (fun k => tailraceref01_Sum.l0 k (b.map fun c => (c.toNat : Int)) L (i : Int)) ((~~~(Math.row (BitVec.allOnes 32) b)).toNat : Int) := by
  induction d with
  | zero =>
    intro i L hi hl h
    refine Ev.step (f := fun k => tailraceref01_Sum.l2 k L ((0 : Nat) : Int)) (fun k => ?_) (rsum_l2 b hb 32 0 L (by omega) hl ?_)
    · simp only [tailraceref01_Sum.l0]
      rw [if_neg (by rw [List.length_map]; omega)]
      rfl
    · intro p
      rw [h p, if_neg (show ¬ p < 0 by omega)]
      by_cases hp : p < 8 * i
      · rw [if_pos hp]
      · rw [if_neg hp, Math.getD_none _ _ (by rw [Math.bitsOf_length]; omega)]
  | succ d ih =>
    intro i L hi hl h
    refine Ev.step (f := fun k => tailraceref01_Sum.l1 k (b.map fun c => (c.toNat : Int)) L (i : Int) ((0 : Nat) : Int)) (fun k => ?_) (rsum_l1 b hb i (by omega) _ 8 0 L (by omega) hl (by simpa using h) (fun L' hl' h' => ih (i + 1) L' (by omega) hl' h'))
    simp only [tailraceref01_Sum.l0]
    rw [if_pos (by rw [List.length_map]; omega)]
    rfl
theorem rsum_f (b : List (BitVec 8)) (hb : b.length < 100000) : Ev (fun k => tailraceref01_Sum.f k (b.map fun c => (c.toNat : Int))) ((~~~(Math.row (BitVec.allOnes 32) b)).toNat : Int) := by
  unfold tailraceref01_Sum.f
  have e : wrap64 (wrap64 (8 * (((b.map fun c => (c.toNat : Int)).length : Nat) : Int)) + 32) = ((8 * b.length + 32 : Nat) : Int) := by
    rw [List.length_map]; unfold wrap64; omega
  rw [e]
  have h1 : (0 : Int) ≤ ((8 * b.length + 32 : Nat) : Int) := by omega
  have h2 : 8 * b.length + 32 ≤ 281474976710656 := by omega
  simp only [Int.toNat_natCast, if_pos h1, if_pos h2]
  refine rsum_l0 b hb b.length 0 _ (by omega) (by simp) (fun p => ?_)
  rw [if_neg (by omega), List.getD_eq_getElem?_getD, List.getElem?_replicate]
  split <;> rfl
theorem line_l0 (b : List (BitVec 8)) (hb : b.length < 100000) (d : Nat) : ∀ (j : Nat) (r : BitVec 32), j + d = b.length → Math.row r (b.drop j) = Math.row (BitVec.allOnes 32) b →
    Ev (fun k => tailracelaw01_CrcLine.l0 k (b.map fun c => (c.toNat : Int)) (b.map fun c => (c.toNat : Int)) (r.toNat : Int) (j : Int)) true := by
  induction d with
  | zero =>
    intro j r hj hr
    rw [List.drop_of_length_le (by omega)] at hr
    have hr' : r = Math.row (BitVec.allOnes 32) b := hr
    refine Ev.step (f := fun k => (crc_Sum.f k (b.map fun c => (c.toNat : Int))).bind fun t140 => ((tailraceref01_Sum.f k (b.map fun c => (c.toNat : Int))).bind fun t141 => (if t140 = t141 then (if t140 = (Go.bits .xor .u32 IntKind.u32.max (r.toNat : Int)) then (if (strOfNums (b.map fun c => (c.toNat : Int))).toList = (strOfNums (b.map fun c => (c.toNat : Int))).toList then ((tailracelaw01_works.f k).bind fun t142 => (some t142)) else (some false)) else (some false)) else (some false))))
      (fun k => ?_) (Ev.bind (a := ((~~~(Math.row (BitVec.allOnes 32) b)).toNat : Int)) ⟨b.length + 9, fun k hk => sum_f b (by omega) k hk⟩ (Ev.bind (rsum_f b hb) ?_))
    · simp only [tailracelaw01_CrcLine.l0]
      rw [if_neg (by rw [List.length_map]; omega)]
    · simp only [if_true, hr', not32]
      exact Ev.bind (a := true) ⟨20, fun k hk => works_f k hk⟩ (Ev.now _)
  | succ d ih =>
    intro j r hj hr
    have hlt : j < b.length := by omega
    have hjx : wrap64 ((j : Int) + 1) = ((j + 1 : Nat) : Int) := by rw [wrap1 (by omega) (by omega)]; rfl
    refine Ev.step (f := fun k => (crc_Step.f k (r.toNat : Int) ((b[j].toNat : Nat) : Int)).bind fun t139 => tailracelaw01_CrcLine.l0 k (b.map fun c => (c.toNat : Int)) (b.map fun c => (c.toNat : Int)) t139 ((j + 1 : Nat) : Int))
      (fun k => ?_) (Ev.bind (a := ((Math.stepB r b[j]).toNat : Int)) ⟨8, fun k hk => step_f k hk r b[j]⟩ (ih (j + 1) _ (by omega) ?_))
    · simp only [tailracelaw01_CrcLine.l0]
      rw [if_pos (by rw [List.length_map]; omega), if_pos (by omega), rd_bytes b j hlt, hjx]
    · rw [List.drop_eq_getElem_cons hlt] at hr
      exact hr
def CrcLine.Pure : Prop := ∀ (l0 : List Int), l0.length ≤ maxLen → l0.length * 1 ≤ 140737488351232 → (∀ x ∈ l0, (Lit.int .u8 x).wf = true) → ∃ k, tailracelaw01_CrcLine.f k l0 = some true
theorem CrcLine : CrcLine.Pure := by
  intro l0 hm hb hw
  obtain ⟨b, rfl⟩ := bytes_of l0 hw
  refine Ev.rounds ?_
  unfold tailracelaw01_CrcLine.f
  by_cases h : ((b.map fun c => (c.toNat : Int)).length : Int) > 1000
  · simp only [if_pos h]
    exact Ev.bind (a := true) ⟨20, fun k hk => works_f k hk⟩ (Ev.now _)
  · simp only [if_neg h, Option.bind_some, List.nil_append, List.length_nil]
    rw [List.length_map] at h
    have h2 : 0 + (b.map fun c => (c.toNat : Int)).length < 140737488355328 := by rw [List.length_map]; omega
    simp only [if_pos h2]
    exact line_l0 b (by omega) b.length 0 (BitVec.allOnes 32) (by omega) rfl
theorem self_l0 (l : List (BitVec 8)) (d : Nat) : ∀ (k j : Nat) (r : BitVec 32), l.length < 1000000 → j + d = l.length → d + l.length + 40 ≤ k →
    Math.row (BitVec.allOnes 32) l = 0xDEBB20E3#32 → Math.row r (l.drop j) = 0xDEBB20E3#32 →
    tailracelaw01_CrcSelf.l0 k (l.map fun c => (c.toNat : Int)) (r.toNat : Int) (j : Int) = some true := by
  induction d with
  | zero =>
    intro k j r hl hj hk hs hr
    obtain ⟨k, rfl⟩ : ∃ m, k = m + 1 := ⟨k - 1, by omega⟩
    rw [List.drop_of_length_le (by omega)] at hr
    have hr' : r = 0xDEBB20E3#32 := hr
    simp only [tailracelaw01_CrcSelf.l0]
    rw [if_neg (by rw [List.length_map]; omega), sum_f l hl k (by omega), hs]
    simp only [Option.bind_some]
    rw [if_pos (by decide), hr', not32, if_pos (by decide), works_f k (by omega)]
    rfl
  | succ d ih =>
    intro k j r hl hj hk hs hr
    obtain ⟨k, rfl⟩ : ∃ m, k = m + 1 := ⟨k - 1, by omega⟩
    have hlt : j < l.length := by omega
    have hrd : rd (l.map fun c => (c.toNat : Int)) (j : Int) = ((l[j].toNat : Nat) : Int) := by
      unfold rd
      rw [Int.toNat_natCast, List.getD_eq_getElem?_getD, List.getElem?_map, List.getElem?_eq_getElem hlt]
      rfl
    simp only [tailracelaw01_CrcSelf.l0]
    rw [if_pos (by rw [List.length_map]; omega), if_pos (by omega), hrd, step_f k (by omega)]
    simp only [Option.bind_some]
    rw [wrap1 (by omega) (by omega), show ((j : Int) + 1) = ((j + 1 : Nat) : Int) from rfl]
    refine ih k (j + 1) _ hl (by omega) (by omega) hs ?_
    rw [List.drop_eq_getElem_cons hlt] at hr
    exact hr
def CrcSelf.Pure : Prop := ∀ (l0 : List Int), l0.length ≤ maxLen → l0.length * 1 ≤ 140737488351232 → (∀ x ∈ l0, (Lit.int .u8 x).wf = true) → ∃ k, tailracelaw01_CrcSelf.f k l0 = some true
theorem CrcSelf : CrcSelf.Pure := by
  intro l0 hm hb hw
  obtain ⟨b, rfl⟩ := bytes_of l0 hw
  have hm' := hm
  refine ⟨3000, ?_⟩
  unfold tailracelaw01_CrcSelf.f
  by_cases h : ((b.map fun c => (c.toNat : Int)).length : Int) > 1000
  · rw [if_pos h, works_f 3000 (by omega)]; rfl
  · rw [if_neg h]
    rw [List.length_map] at h
    have hl : b.length ≤ 1000 := by omega
    rw [sum_f b (by omega) 3000 (by omega)]
    simp only [Option.bind_some, List.nil_append, List.length_nil, List.length_map, List.length_cons]
    rw [if_pos (by omega), if_pos (by omega)]
    generalize hn : ~~~Math.row (BitVec.allOnes 32) b = n
    have e : ([(n.toNat : Int) % 256, (n.toNat : Int) / 256 % 256, (n.toNat : Int) / 65536 % 256, (n.toNat : Int) / 16777216 % 256] : List Int) = (Math.bytesOf n).map fun c => (c.toNat : Int) := by
      unfold Math.bytesOf
      simp only [List.map_cons, List.map_nil, BitVec.toNat_setWidth, BitVec.toNat_ushiftRight, Nat.shiftRight_eq_div_pow]
      simp
    rw [e, ← List.map_append]
    have hs : Math.row (BitVec.allOnes 32) (b ++ Math.bytesOf n) = 0xDEBB20E3#32 := by
      rw [Math.row_append, ← hn, Math.self]
    have h4 : (Math.bytesOf n).length = 4 := rfl
    exact self_l0 (b ++ Math.bytesOf n) (b ++ Math.bytesOf n).length 3000 0 (BitVec.allOnes 32) (by rw [List.length_append]; omega) (by omega) (by rw [List.length_append]; omega) hs (by rw [List.drop_zero]; exact hs)
theorem xor8_bits (a b : BitVec 8) : Go.bits .xor .u8 (a.toNat : Int) (b.toNat : Int) = ((a ^^^ b).toNat : Int) := by
  have ha : BitVec.ofInt 8 (a.toNat : Int) = a := by apply BitVec.eq_of_toNat_eq; simp
  have hb : BitVec.ofInt 8 (b.toNat : Int) = b := by apply BitVec.eq_of_toNat_eq; simp
  show IntKind.u8.wrap (((BitVec.ofInt 8 (a.toNat : Int)) ^^^ (BitVec.ofInt 8 (b.toNat : Int))).toNat : Int) = _
  rw [ha, hb]
  exact wrap_small rfl (by omega) (by have := (a ^^^ b).isLt; show _ < (2:Int) ^ 8; omega)
theorem rd_bytes_bits (b : List (BitVec 8)) (j : Nat) (hlt : j < b.length) : rd (b.map fun c => (c.toNat : Int)) (j : Int) = ((b.getD j 0#8).toNat : Int) := by
  unfold rd
  rw [Int.toNat_natCast, List.getD_eq_getElem?_getD, List.getElem?_map, List.getElem?_eq_getElem hlt, List.getD_eq_getElem?_getD, List.getElem?_eq_getElem hlt]
  rfl
theorem shl8 (j : Nat) (hj : j < 8) : shl .u8 1 (j : Int) = ((1#8 <<< j).toNat : Int) := by
  have h : ∀ i : Fin 8, shl .u8 1 ((i.1 : Nat) : Int) = ((1#8 <<< i.1).toNat : Int) := by decide +kernel
  exact h ⟨j, hj⟩
theorem nums_inj (a b : List (BitVec 8)) (h : (strOfNums (a.map fun c => (c.toNat : Int))).toList = (strOfNums (b.map fun c => (c.toNat : Int))).toList) : a = b := by
  have e : ∀ l : List (BitVec 8), (strOfNums (l.map fun c => (c.toNat : Int))).data.toList = l.map fun c => UInt8.ofNat c.toNat := by
    intro l
    unfold strOfNums
    simp
  have h' : (strOfNums (a.map fun c => (c.toNat : Int))).data.toList = (strOfNums (b.map fun c => (c.toNat : Int))).data.toList := by
    have t : ∀ s : ByteArray, s.toList = s.data.toList := fun s => ByteArray.toList_eq s
    rw [← t, ← t]; exact h
  rw [e, e] at h'
  have hinj : ∀ x y : BitVec 8, UInt8.ofNat x.toNat = UInt8.ofNat y.toNat → x = y := by
    intro x y hxy
    have := congrArg UInt8.toNat hxy
    simp only [UInt8.toNat_ofNat'] at this
    apply BitVec.eq_of_toNat_eq
    have hx := x.isLt; have hy := y.isLt
    omega
  exact List.map_inj_right hinj |>.1 h'
/-- One turn of a bit. -/
theorem turn_l0 (b x : List (BitVec 8)) (ns : List Int) (L : Nat) (hb : b.length = L) (hx : x.length = L) (h1 : 1 ≤ L) (hL : L ≤ 1000) (hns : ns.length = 3) (i : Nat) (hi : i < 3) (n : Nat) (hn : ns.getD i 0 = (n : Int)) (hn' : n < 65536) (k : Nat) :
    tailracelaw01_CrcBits.l0 (k + 1) (b.map fun c => (c.toNat : Int)) (x.map fun c => (c.toNat : Int)) ns 3 (i : Int) =
    tailracelaw01_CrcBits.l0 k (b.map fun c => (c.toNat : Int)) ((Math.flip x (n % (8 * L))).map fun c => (c.toNat : Int)) ns 3 ((i + 1 : Nat) : Int) := by
  have hix : wrap64 ((i : Int) + 1) = ((i + 1 : Nat) : Int) := by rw [wrap1 (by omega) (by omega)]; rfl
  have hrd : rd ns (i : Int) = (n : Int) := by unfold rd; rw [Int.toNat_natCast]; exact hn
  have hw : wrap64 (n : Int) = (n : Int) := by unfold wrap64; omega
  have h8 : wrap64 (8 * ((b.map fun c => (c.toNat : Int)).length : Int)) = ((8 * L : Nat) : Int) := by rw [List.length_map, hb]; unfold wrap64; omega
  have hm : Int.tmod (n : Int) ((8 * L : Nat) : Int) = ((n % (8 * L) : Nat) : Int) := by
    rw [Int.tmod_eq_emod_of_nonneg (by omega)]; rfl
  generalize hp : n % (8 * L) = p at hm
  have hpl : p < 8 * L := by rw [← hp]; exact Nat.mod_lt _ (by omega)
  have hd : wrap64 (Int.tdiv (p : Int) 8) = ((p / 8 : Nat) : Int) := by
    rw [Int.tdiv_eq_ediv_of_nonneg (by omega)]; unfold wrap64; omega
  have hj : Int.tmod (p : Int) 8 = ((p % 8 : Nat) : Int) := by
    rw [Int.tmod_eq_emod_of_nonneg (by omega)]; rfl
  have hq : p / 8 < x.length := by omega
  have hset : ((x.map fun c => (c.toNat : Int)).set (p / 8) ((x.getD (p / 8) 0#8 ^^^ 1#8 <<< (p % 8)).toNat : Int)) = (Math.flip x p).map fun c => (c.toNat : Int) := by
    unfold Math.flip; rw [List.map_set]
  simp only [tailracelaw01_CrcBits.l0]
  rw [if_pos (by omega), if_pos (by omega), if_pos (by rw [hns]; omega), hrd, hw, h8, if_neg (by omega), hm, hd, hj, if_pos (by omega), if_pos (by rw [List.length_map]; omega), if_pos (by omega), Int.toNat_natCast,
    rd_bytes_bits x _ hq, shl8 _ (Nat.mod_lt _ (by omega)), xor8_bits, hix, hset]
def CrcBits.Pure : Prop := ∀ (l0 : List Int) (a1 : Int) (a2 : Int) (a3 : Int), l0.length ≤ maxLen → l0.length * 1 ≤ 140737488351232 → (∀ x ∈ l0, (Lit.int .u8 x).wf = true) → (Lit.int .u16 a1).wf = true → (Lit.int .u16 a2).wf = true → (Lit.int .u16 a3).wf = true → ∃ k, tailracelaw01_CrcBits.f k l0 a1 a2 a3 = some true
theorem CrcBits : CrcBits.Pure := by
  intro l0 a1 a2 a3 hm hb hw w1 w2 w3
  obtain ⟨b, rfl⟩ := bytes_of l0 hw
  have r1 : 0 ≤ a1 ∧ a1 ≤ 65535 := by simpa [Lit.wf, IntKind.min, IntKind.max, IntKind.signed, IntKind.bits] using w1
  have r2 : 0 ≤ a2 ∧ a2 ≤ 65535 := by simpa [Lit.wf, IntKind.min, IntKind.max, IntKind.signed, IntKind.bits] using w2
  have r3 : 0 ≤ a3 ∧ a3 ≤ 65535 := by simpa [Lit.wf, IntKind.min, IntKind.max, IntKind.signed, IntKind.bits] using w3
  obtain ⟨n1, rfl⟩ := Int.eq_ofNat_of_zero_le r1.1
  obtain ⟨n2, rfl⟩ := Int.eq_ofNat_of_zero_le r2.1
  obtain ⟨n3, rfl⟩ := Int.eq_ofNat_of_zero_le r3.1
  refine Ev.rounds ?_
  unfold tailracelaw01_CrcBits.f
  by_cases h0 : ((b.map fun c => (c.toNat : Int)).length : Int) = 0
  · simp only [if_pos h0]
    refine Ev.step (f := fun k => (tailracelaw01_works.f k).bind fun t110 => some t110) (fun k => ?_) (Ev.bind (a := true) ⟨20, fun k hk => works_f k hk⟩ (Ev.now _))
    simp only [tailracelaw01_CrcBits.j0, if_true]
  · simp only [if_neg h0]
    by_cases h : ((b.map fun c => (c.toNat : Int)).length : Int) > 1000
    · simp only [decide_eq_true h]
      refine Ev.step (f := fun k => (tailracelaw01_works.f k).bind fun t110 => some t110) (fun k => ?_) (Ev.bind (a := true) ⟨20, fun k hk => works_f k hk⟩ (Ev.now _))
      simp only [tailracelaw01_CrcBits.j0, if_true]
    · rw [List.length_map] at h h0
      have hd : decide (((b.map fun c => (c.toNat : Int)).length : Int) > 1000) = false := by rw [List.length_map]; exact decide_eq_false h
      rw [hd]
      generalize hL : b.length = L
      have hx1 : (Math.flip b (n1 % (8 * L))).length = L := by rw [Math.flip_length, hL]
      have hx2 : (Math.flip (Math.flip b (n1 % (8 * L))) (n2 % (8 * L))).length = L := by rw [Math.flip_length, hx1]
      have hx3 : (Math.flip (Math.flip (Math.flip b (n1 % (8 * L))) (n2 % (8 * L))) (n3 % (8 * L))).length = L := by rw [Math.flip_length, hx2]
      have hf := Math.flips b (n1 % (8 * L)) (n2 % (8 * L)) (n3 % (8 * L)) (by omega) (by rw [hL]; exact Nat.mod_lt _ (by omega)) (by rw [hL]; exact Nat.mod_lt _ (by omega)) (by rw [hL]; exact Nat.mod_lt _ (by omega)) (BitVec.allOnes 32)
      refine Ev.step (f := fun k => tailracelaw01_CrcBits.l0 k (b.map fun c => (c.toNat : Int)) (b.map fun c => (c.toNat : Int)) [(n1 : Int), (n2 : Int), (n3 : Int)] 3 ((0 : Nat) : Int)) (fun k => ?_) ?_
      · have hlt : 0 + (b.map fun c => (c.toNat : Int)).length < 140737488355328 := by rw [List.length_map]; omega
        simp only [tailracelaw01_CrcBits.j0]
        rw [if_neg (by simp)]
        simp only [Option.bind_some, if_pos hlt, List.nil_append, List.length_cons, List.length_nil]
        rfl
      · refine Ev.step (fun k => turn_l0 b b [(n1 : Int), (n2 : Int), (n3 : Int)] L hL hL (by omega) (by omega) rfl 0 (by omega) n1 rfl (by omega) k) ?_
        refine Ev.step (fun k => turn_l0 b (Math.flip b (n1 % (8 * L))) [(n1 : Int), (n2 : Int), (n3 : Int)] L hL hx1 (by omega) (by omega) rfl 1 (by omega) n2 rfl (by omega) k) ?_
        refine Ev.step (fun k => turn_l0 b (Math.flip (Math.flip b (n1 % (8 * L))) (n2 % (8 * L))) [(n1 : Int), (n2 : Int), (n3 : Int)] L hL hx2 (by omega) (by omega) rfl 2 (by omega) n3 rfl (by omega) k) ?_
        generalize Math.flip (Math.flip (Math.flip b (n1 % (8 * L))) (n2 % (8 * L))) (n3 % (8 * L)) = x at hf hx3
        refine Ev.step (f := fun k => (crc_Sum.f k (x.map fun c => (c.toNat : Int))).bind fun t123 => (crc_Sum.f k (b.map fun c => (c.toNat : Int))).bind fun t124 => (if ((t123 == t124) == ((strOfNums (x.map fun c => (c.toNat : Int))).toList == (strOfNums (b.map fun c => (c.toNat : Int))).toList)) = true then ((tailracelaw01_works.f k).bind fun t125 => (some t125)) else (some false)))
          (fun k => ?_) (Ev.bind (a := ((~~~(Math.row (BitVec.allOnes 32) x)).toNat : Int)) ⟨x.length + 9, fun k hk => sum_f x (by omega) k hk⟩ (Ev.bind (a := ((~~~(Math.row (BitVec.allOnes 32) b)).toNat : Int)) ⟨b.length + 9, fun k hk => sum_f b (by omega) k hk⟩ ?_))
        · simp only [tailracelaw01_CrcBits.l0]
          rw [if_neg (by omega)]
        · have e1 : ((((~~~(Math.row (BitVec.allOnes 32) x)).toNat : Int)) == ((~~~(Math.row (BitVec.allOnes 32) b)).toNat : Int)) = false := by
            rw [beq_eq_false_iff_ne]
            intro e
            apply hf
            have e' : ~~~(Math.row (BitVec.allOnes 32) x) = ~~~(Math.row (BitVec.allOnes 32) b) := BitVec.eq_of_toNat_eq (by omega)
            have := congrArg (fun z => ~~~z) e'
            simpa using this
          have e2 : ((strOfNums (x.map fun c => (c.toNat : Int))).toList == (strOfNums (b.map fun c => (c.toNat : Int))).toList) = false := by
            rw [beq_eq_false_iff_ne]
            intro e
            apply hf
            rw [nums_inj x b e]
          simp only [e1, e2, beq_self_eq_true, if_true]
          exact Ev.bind (a := true) ⟨20, fun k hk => works_f k hk⟩ (Ev.now _)
theorem xor8_three (a b : BitVec 8) : Go.bits .xor .u8 (a.toNat : Int) (b.toNat : Int) = ((a ^^^ b).toNat : Int) := by
  have ha : BitVec.ofInt 8 (a.toNat : Int) = a := by apply BitVec.eq_of_toNat_eq; simp
  have hb : BitVec.ofInt 8 (b.toNat : Int) = b := by apply BitVec.eq_of_toNat_eq; simp
  show IntKind.u8.wrap (((BitVec.ofInt 8 (a.toNat : Int)) ^^^ (BitVec.ofInt 8 (b.toNat : Int))).toNat : Int) = _
  rw [ha, hb]
  exact wrap_small rfl (by omega) (by have := (a ^^^ b).isLt; show _ < (2:Int) ^ 8; omega)
theorem rd_bytes_three (b : List (BitVec 8)) (j : Nat) (hlt : j < b.length) : rd (b.map fun c => (c.toNat : Int)) (j : Int) = ((b[j].toNat : Nat) : Int) := by
  unfold rd
  rw [Int.toNat_natCast, List.getD_eq_getElem?_getD, List.getElem?_map, List.getElem?_eq_getElem hlt]
  rfl
def xor3 (a b c : List (BitVec 8)) : List (BitVec 8) := List.zipWith (· ^^^ ·) (List.zipWith (· ^^^ ·) a b) c
theorem three_l0 (a b c : List (BitVec 8)) (n : Nat) (ha : n ≤ a.length) (hb : n ≤ b.length) (hc : n ≤ c.length) (hn : n ≤ 1000) (d : Nat) : ∀ (i : Nat) (z : List (BitVec 8)), i + d = n → z.length = n →
    (∀ p (hp : p < n), z[p]? = some (if p < i then a[p] ^^^ b[p] ^^^ c[p] else 0#8)) →
    Ev (fun k => tailracelaw01_CrcThree.l0 k (a.map fun c => (c.toNat : Int)) (b.map fun c => (c.toNat : Int)) (c.map fun c => (c.toNat : Int)) (n : Int) (z.map fun c => (c.toNat : Int)) (i : Int)) true := by
  induction d with
  | zero =>
    intro i z hi hl h
    obtain rfl : i = n := by omega
    have hz : z = xor3 (a.take i) (b.take i) (c.take i) := by
      unfold xor3
      apply List.ext_getElem?
      intro p
      by_cases hp : p < i
      · rw [h p hp, if_pos hp, List.getElem?_zipWith, List.getElem?_zipWith, List.getElem?_take_of_lt hp, List.getElem?_take_of_lt hp, List.getElem?_take_of_lt hp, List.getElem?_eq_getElem (by omega : p < a.length), List.getElem?_eq_getElem (by omega : p < b.length), List.getElem?_eq_getElem (by omega : p < c.length)]
      · rw [List.getElem?_eq_none (by omega), List.getElem?_eq_none]
        simp only [List.length_zipWith, List.length_take]
        omega
    have hla : (a.take i).length = i := by rw [List.length_take]; omega
    have hlb : (b.take i).length = i := by rw [List.length_take]; omega
    have hlc : (c.take i).length = i := by rw [List.length_take]; omega
    have hlz : (List.zipWith (· ^^^ ·) (a.take i) (b.take i)).length = i := by rw [List.length_zipWith, hla, hlb]; omega
    have hall : Math.row (BitVec.allOnes 32) z = Math.row (BitVec.allOnes 32) (a.take i) ^^^ Math.row (BitVec.allOnes 32) (b.take i) ^^^ Math.row (BitVec.allOnes 32) (c.take i) := by
      rw [hz]
      have h1 := Math.row_xor (List.zipWith (· ^^^ ·) (a.take i) (b.take i)) (c.take i) (BitVec.allOnes 32 ^^^ BitVec.allOnes 32) (BitVec.allOnes 32) (by rw [hlz, hlc])
      have h2 := Math.row_xor (a.take i) (b.take i) (BitVec.allOnes 32) (BitVec.allOnes 32) (by rw [hla, hlb])
      rw [h2] at h1
      have e : (BitVec.allOnes 32 ^^^ BitVec.allOnes 32) ^^^ BitVec.allOnes 32 = BitVec.allOnes 32 := by decide
      rw [e] at h1
      exact h1
    have hx : (~~~(Math.row (BitVec.allOnes 32) (a.take i)) ^^^ ~~~(Math.row (BitVec.allOnes 32) (b.take i))) ^^^ ~~~(Math.row (BitVec.allOnes 32) (c.take i)) ^^^ ~~~(Math.row (BitVec.allOnes 32) z) = 0#32 := by
      rw [hall]
      generalize Math.row (BitVec.allOnes 32) (a.take i) = u
      generalize Math.row (BitVec.allOnes 32) (b.take i) = v
      generalize Math.row (BitVec.allOnes 32) (c.take i) = x
      apply BitVec.eq_of_getLsbD_eq
      intro j hj
      simp only [BitVec.getLsbD_xor, BitVec.getLsbD_not, hj, decide_true, Bool.true_and]
      cases u.getLsbD j <;> cases v.getLsbD j <;> cases x.getLsbD j <;> simp
    have s1 : Ev (fun k => crc_Sum.f k ((a.take i).map fun c => (c.toNat : Int))) _ := ⟨(a.take i).length + 9, fun k hk => sum_f (a.take i) (by omega) k hk⟩
    have s2 : Ev (fun k => crc_Sum.f k ((b.take i).map fun c => (c.toNat : Int))) _ := ⟨(b.take i).length + 9, fun k hk => sum_f (b.take i) (by omega) k hk⟩
    have s3 : Ev (fun k => crc_Sum.f k ((c.take i).map fun c => (c.toNat : Int))) _ := ⟨(c.take i).length + 9, fun k hk => sum_f (c.take i) (by omega) k hk⟩
    have s4 : Ev (fun k => crc_Sum.f k (z.map fun c => (c.toNat : Int))) _ := ⟨z.length + 9, fun k hk => sum_f z (by omega) k hk⟩
    refine Ev.step (f := fun k => (crc_Sum.f k ((a.take i).map fun c => (c.toNat : Int))).bind fun t119 => (crc_Sum.f k ((b.take i).map fun c => (c.toNat : Int))).bind fun t121 => (crc_Sum.f k ((c.take i).map fun c => (c.toNat : Int))).bind fun t123 => (crc_Sum.f k (z.map fun c => (c.toNat : Int))).bind fun t124 =>
        (if (Go.bits .xor .u32 (Go.bits .xor .u32 (Go.bits .xor .u32 t119 t121) t123) t124) = 0 then ((tailracelaw01_works.f k).bind fun t125 => (some t125)) else (some false))) (fun k => ?_) (Ev.bind s1 (Ev.bind s2 (Ev.bind s3 (Ev.bind s4 ?_))))
    · simp only [tailracelaw01_CrcThree.l0]
      rw [if_neg (by omega), if_pos (by omega), if_pos (by rw [List.length_map]; omega), Int.toNat_natCast, ← List.map_take, ← List.map_take, ← List.map_take]
      have g1 : (i : Int) ≤ ((b.map fun c => (c.toNat : Int)).length : Int) := by rw [List.length_map]; omega
      have g2 : (i : Int) ≤ ((c.map fun c => (c.toNat : Int)).length : Int) := by rw [List.length_map]; omega
      simp only [if_pos g1, if_pos g2]
    · simp only [xor32, hx]
      simp only [show ((0#32).toNat : Int) = 0 from rfl, if_true]
      exact Ev.bind (a := true) ⟨20, fun k hk => works_f k hk⟩ (Ev.now _)
  | succ d ih =>
    intro i z hi hl h
    have hix : wrap64 ((i : Int) + 1) = ((i + 1 : Nat) : Int) := by rw [wrap1 (by omega) (by omega)]; rfl
    have hai : i < a.length := by omega
    have hbi : i < b.length := by omega
    have hci : i < c.length := by omega
    refine Ev.step (f := fun k => tailracelaw01_CrcThree.l0 k (a.map fun c => (c.toNat : Int)) (b.map fun c => (c.toNat : Int)) (c.map fun c => (c.toNat : Int)) (n : Int) ((z.set i (a[i] ^^^ b[i] ^^^ c[i])).map fun c => (c.toNat : Int)) ((i + 1 : Nat) : Int)) (fun k => ?_) (ih (i + 1) (z.set i (a[i] ^^^ b[i] ^^^ c[i])) (by omega) (by rw [List.length_set]; exact hl) ?_)
    · simp only [tailracelaw01_CrcThree.l0]
      rw [if_pos (by omega), if_pos (by omega), if_pos (by rw [List.length_map]; omega), if_pos (by rw [List.length_map]; omega), if_pos (by rw [List.length_map]; omega), if_pos (by rw [List.length_map]; omega), Int.toNat_natCast,
        rd_bytes_three a i hai, rd_bytes_three b i hbi, rd_bytes_three c i hci, xor8_three, xor8_three, hix, List.map_set]
    · intro p hp
      rw [List.getElem?_set]
      by_cases hpi : i = p
      · subst hpi
        rw [if_pos rfl, if_pos (by omega), if_pos (by omega)]
      · rw [if_neg hpi, h p hp]
        by_cases hlt : p < i
        · rw [if_pos hlt, if_pos (by omega)]
        · rw [if_neg hlt, if_neg (by omega)]
def CrcThree.Pure : Prop := ∀ (l0 : List Int) (l1 : List Int) (l2 : List Int), l0.length ≤ maxLen → l0.length * 1 ≤ 140737488351232 → (∀ x ∈ l0, (Lit.int .u8 x).wf = true) → l1.length ≤ maxLen → l1.length * 1 ≤ 140737488351232 → (∀ x ∈ l1, (Lit.int .u8 x).wf = true) → l2.length ≤ maxLen → l2.length * 1 ≤ 140737488351232 → (∀ x ∈ l2, (Lit.int .u8 x).wf = true) → ∃ k, tailracelaw01_CrcThree.f k l0 l1 l2 = some true
theorem CrcThree : CrcThree.Pure := by
  intro l0 l1 l2 hm0 hb0 hw0 hm1 hb1 hw1 hm2 hb2 hw2
  obtain ⟨a, rfl⟩ := bytes_of l0 hw0
  obtain ⟨b, rfl⟩ := bytes_of l1 hw1
  obtain ⟨c, rfl⟩ := bytes_of l2 hw2
  refine Ev.rounds ?_
  unfold tailracelaw01_CrcThree.f
  have e : mn (mn ((a.map fun c => (c.toNat : Int)).length : Int) ((b.map fun c => (c.toNat : Int)).length : Int)) ((c.map fun c => (c.toNat : Int)).length : Int) = ((min (min a.length b.length) c.length : Nat) : Int) := by
    simp only [List.length_map]
    unfold mn
    repeat' split
    all_goals omega
  rw [e]
  generalize hn : min (min a.length b.length) c.length = n
  by_cases h : (n : Int) > 1000
  · simp only [if_pos h]
    exact Ev.bind (a := true) ⟨20, fun k hk => works_f k hk⟩ (Ev.now _)
  · have h1 : (0 : Int) ≤ (n : Int) := by omega
    have h2 : n ≤ 281474976710656 := by omega
    simp only [if_neg h, if_pos h1, Int.toNat_natCast, if_pos h2]
    have hz : List.replicate n (0 : Int) = (List.replicate n (0#8)).map fun c => (c.toNat : Int) := by simp
    rw [hz]
    refine three_l0 a b c n (by omega) (by omega) (by omega) (by omega) n 0 (List.replicate n (0#8)) (by omega) (by simp) (fun p hp => ?_)
    rw [List.getElem?_replicate, if_pos hp, if_neg (by omega)]
end Go.Proofs.Ytnnhlladcmgmnaa.PureKnown
