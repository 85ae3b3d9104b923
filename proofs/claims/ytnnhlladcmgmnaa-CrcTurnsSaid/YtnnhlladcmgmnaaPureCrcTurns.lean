/-
  The Step of any register and byte is what is left of their line, by the document's definition.
-/
import Derived.Test.YtnnhlladcmgmnaaPCrcTurnsx2
import Derived.Test.YtnnhlladcmgmnaaMath
namespace Go.Proofs.Ytnnhlladcmgmnaa.Pure
open Go.RowKit Go.Proofs.Ytnnhlladcmgmnaa.PCrcTurns Go.Proofs.YtnnhlladcmgmnaaW.PrintWords Go.Proofs.YtnnhlladcmgmnaaW.PrintLast Go.Proofs.YtnnhlladcmgmnaaW.PrintMore
set_option linter.unusedVariables false
/-! what the printed functions of crc come to, in the words of Math -/
theorem wrap_small {k : IntKind} (hk : k.signed = false) {n : Int} (h0 : 0 ≤ n) (h : n < 2 ^ k.bits) : k.wrap n = n := by
  cases k <;> simp_all [IntKind.wrap, IntKind.signed, IntKind.bits] <;> omega
theorem xor32 (a b : BitVec 32) : Go.bits .xor .u32 (a.toNat : Int) (b.toNat : Int) = ((a ^^^ b).toNat : Int) := by
  have ha : BitVec.ofInt 32 (a.toNat : Int) = a := by apply BitVec.eq_of_toNat_eq; simp
  have hb : BitVec.ofInt 32 (b.toNat : Int) = b := by apply BitVec.eq_of_toNat_eq; simp
  show IntKind.u32.wrap (((BitVec.ofInt 32 (a.toNat : Int)) ^^^ (BitVec.ofInt 32 (b.toNat : Int))).toNat : Int) = _
  rw [ha, hb]
  exact wrap_small rfl (by omega) (by have := (a ^^^ b).isLt; show _ < (2:Int) ^ 32; omega)
theorem not32 (a : BitVec 32) : Go.bits .xor .u32 IntKind.u32.max (a.toNat : Int) = ((~~~a).toNat : Int) := by
  have e : (IntKind.u32.max : Int) = ((BitVec.allOnes 32).toNat : Int) := by decide
  rw [e, xor32]
  rw [BitVec.allOnes_xor]
theorem wrap1 {i : Int} (h0 : 0 ≤ i) (h : i < 1000000) : wrap64 (i + 1) = i + 1 := by unfold wrap64; omega

theorem worn_tab (n : Nat) (hn : n < 16) : crc_worn.f 5 (n : Int) = some ((Math.fourTab.getD n 0 : Nat) : Int) := by
  have h : ∀ m : Fin 16, crc_worn.f 5 ((m.1 : Nat) : Int) = some ((Math.fourTab.getD m.1 0 : Nat) : Int) := by decide +kernel
  exact h ⟨n, hn⟩
theorem worn_four (x : BitVec 32) : crc_worn.f 5 (Int.tmod (x.toNat : Int) 16) = some ((Math.four x).toNat : Int) := by
  have e : Int.tmod (x.toNat : Int) 16 = ((x.toNat % 16 : Nat) : Int) := by
    rw [Int.tmod_eq_emod_of_nonneg (by omega)]; omega
  rw [e, worn_tab _ (Nat.mod_lt _ (by omega)), Math.four_tab]
theorem step_l0 (k : Nat) (hk : 8 ≤ k) (x : BitVec 32) : crc_Step.l0 k (x.toNat : Int) 0 = some ((Math.BN 8 x).toNat : Int) := by
  have one : ∀ (j : Nat) (hj : 5 ≤ j) (y : BitVec 32) (i : Int), i < 2 → crc_Step.l0 (j + 1) (y.toNat : Int) i = crc_Step.l0 j ((Math.BN 4 y).toNat : Int) (wrap64 (i + 1)) := by
    intro j hj y i hi
    simp only [crc_Step.l0]
    rw [if_pos hi, at_rounds (fun k => crc_worn.mono _ k) hj (worn_four y)]
    simp only [Option.bind_some]
    have e : (y.toNat : Int) / (16 : Int) = ((y >>> 4).toNat : Int) := by
      rw [BitVec.toNat_ushiftRight, Nat.shiftRight_eq_div_pow]; omega
    rw [e, xor32, Math.BN4]
  obtain ⟨k, rfl⟩ : ∃ m, k = m + 3 := ⟨k - 3, by omega⟩
  rw [one (k + 2) (by omega) x 0 (by omega), show wrap64 (0 + 1) = 1 from by decide +kernel, one (k + 1) (by omega) _ 1 (by omega), show wrap64 (1 + 1) = 2 from by decide +kernel]
  simp only [crc_Step.l0]
  rw [if_neg (by omega), ← Math.BN8]
theorem step_f (k : Nat) (hk : 8 ≤ k) (r : BitVec 32) (c : BitVec 8) : crc_Step.f k (r.toNat : Int) (c.toNat : Int) = some ((Math.stepB r c).toNat : Int) := by
  unfold crc_Step.f
  have e : ((c.toNat : Int) % 4294967296) = ((c.setWidth 32).toNat : Int) := by
    rw [BitVec.toNat_setWidth]; have := c.isLt; omega
  rw [e, xor32, step_l0 k hk]
  rfl
theorem sum_l0 (l : List (BitVec 8)) (d : Nat) : ∀ (k j : Nat) (r : BitVec 32), l.length < 1000000 → j + d = l.length → d + 9 ≤ k →
    crc_Sum.l0 k (r.toNat : Int) (l.map fun c => (c.toNat : Int)) (l.length : Int) (j : Int) = some ((~~~(Math.row r (l.drop j))).toNat : Int) := by
  induction d with
  | zero =>
    intro k j r hl hj hk
    obtain ⟨k, rfl⟩ : ∃ m, k = m + 1 := ⟨k - 1, by omega⟩
    simp only [crc_Sum.l0]
    rw [if_neg (by omega), not32, List.drop_of_length_le (by omega)]
    rfl
  | succ d ih =>
    intro k j r hl hj hk
    obtain ⟨k, rfl⟩ : ∃ m, k = m + 1 := ⟨k - 1, by omega⟩
    have hlt : j < l.length := by omega
    have hrd : rd (l.map fun c => (c.toNat : Int)) (j : Int) = ((l[j].toNat : Nat) : Int) := by
      unfold rd
      rw [Int.toNat_natCast, List.getD_eq_getElem?_getD, List.getElem?_map, List.getElem?_eq_getElem hlt]
      rfl
    simp only [crc_Sum.l0]
    rw [if_pos (by omega), if_pos (by omega), if_pos (by rw [List.length_map]; omega), hrd, step_f k (by omega)]
    simp only [Option.bind_some]
    rw [wrap1 (by omega) (by omega), show ((j : Int) + 1) = ((j + 1 : Nat) : Int) from rfl, ih k (j + 1) _ hl (by omega) (by omega)]
    rw [List.drop_eq_getElem_cons hlt]
    rfl
theorem sum_f (l : List (BitVec 8)) (hl : l.length < 1000000) (k : Nat) (hk : l.length + 9 ≤ k) :
    crc_Sum.f k (l.map fun c => (c.toNat : Int)) = some ((~~~(Math.row (BitVec.allOnes 32) l)).toNat : Int) := by
  unfold crc_Sum.f
  have h := sum_l0 l l.length k 0 (BitVec.allOnes 32) hl (by omega) hk
  rw [List.drop_zero] at h
  rw [List.length_map]
  exact h
theorem works_f (k : Nat) (hk : 20 ≤ k) : tailracelaw01_works.f k = some true := at_rounds tailracelaw01_works.mono hk works_true
/-- Bytes of the argument, as bytes. -/
theorem bytes_of (l : List Int) (h : ∀ x ∈ l, (Lit.int .u8 x).wf = true) : ∃ b : List (BitVec 8), l = b.map fun c => (c.toNat : Int) := by
  induction l with
  | nil => exact ⟨[], rfl⟩
  | cons x l ih =>
    obtain ⟨b, rfl⟩ := ih (fun y hy => h y (List.mem_cons_of_mem _ hy))
    have hx : 0 ≤ x ∧ x ≤ 255 := by have := h x (List.mem_cons_self ..); simpa [Lit.wf, IntKind.min, IntKind.max, IntKind.signed, IntKind.bits] using this
    refine ⟨BitVec.ofNat 8 x.toNat :: b, ?_⟩
    rw [List.map_cons]
    congr 1
    rw [BitVec.toNat_ofNat]
    omega

/-! what 'left' comes to -/
def T : List Int := [6, 9, 10, 16, 20, 21, 22, 24, 25, 27, 28, 30, 31, 32]
theorem T_rd (j : Nat) (hj : j < 14) : rd T (j : Int) = ((Math.taps.getD j 0 : Nat) : Int) := by
  have h : ∀ i : Fin 14, rd T ((i.1 : Nat) : Int) = ((Math.taps.getD i.1 0 : Nat) : Int) := by decide
  exact h ⟨j, hj⟩
theorem taps_le (j : Nat) : Math.taps.getD j 0 ≤ 32 := by
  by_cases h : j < 14
  · have h' : ∀ i : Fin 14, Math.taps.getD i.1 0 ≤ 32 := by decide
    exact h' ⟨j, h⟩
  · rw [List.getD_eq_getElem?_getD, List.getElem?_eq_none (by show Math.taps.length ≤ j; show 14 ≤ j; omega)]; simp
theorem taps_ge (j : Nat) (hj : j < 14) : 6 ≤ Math.taps.getD j 0 := by
  have h' : ∀ i : Fin 14, 6 ≤ Math.taps.getD i.1 0 := by decide
  exact h' ⟨j, hj⟩
theorem rdOf_nat (L : List Bool) (n : Nat) : rdOf false L (n : Int) = L.getD n false := by unfold rdOf; rw [Int.toNat_natCast]
theorem taps_drop (j : Nat) (hj : j < 14) : Math.taps.drop j = Math.taps.getD j 0 :: Math.taps.drop (j + 1) := by
  have h : ∀ i : Fin 14, Math.taps.drop i.1 = Math.taps.getD i.1 0 :: Math.taps.drop (i.1 + 1) := by decide
  exact h ⟨j, hj⟩
/-- The last 32 bits, as a number. -/
theorem left_l2 (L : List Bool) (m : Nat) (hm : L.length = m + 32) (hb : L.length < 1000000) (d : Nat) : ∀ (k i : Nat), i + d = 32 → d < k →
    tailraceref01_left.l2 k L ((Math.wv L m i : Nat) : Int) (i : Int) = some (((Math.win L m).toNat : Int), L) := by
  have hw : wrap64 ((L.length : Int) - 32) = (m : Int) := by rw [hm]; unfold wrap64; omega
  induction d with
  | zero =>
    intro k i hi hk
    obtain ⟨k, rfl⟩ : ∃ x, k = x + 1 := ⟨k - 1, by omega⟩
    obtain rfl : i = 32 := by omega
    simp only [tailraceref01_left.l2]
    rw [if_neg (by omega), Math.win_toNat]
  | succ d ih =>
    intro k i hi hk
    obtain ⟨k, rfl⟩ : ∃ x, k = x + 1 := ⟨k - 1, by omega⟩
    have hlt : i < 32 := by omega
    have hs : wrap64 ((m : Int) + (i : Int)) = ((m + i : Nat) : Int) := by unfold wrap64; omega
    have hn : wrap64 ((i : Int) + 1) = ((i + 1 : Nat) : Int) := by rw [wrap1 (by omega) (by omega)]; rfl
    simp only [tailraceref01_left.l2]
    rw [if_pos (by omega), hw, hs, if_pos (by omega), if_pos (by omega), hn, rdOf_nat]
    by_cases hbit : L.getD (m + i) false = true
    · rw [if_pos hbit, if_pos (by omega)]
      have hv := Math.wv_lt L m i
      have hp : 2 ^ i ≤ 2 ^ 31 := Nat.pow_le_pow_right (by omega) (by omega)
      have hshl : shl .u32 1 (i : Int) = ((2 ^ i : Nat) : Int) := by
        unfold shl
        rw [Int.toNat_natCast, Nat.min_eq_left (by show i ≤ 32; omega), Int.one_mul]
        rw [wrap_small rfl (by exact Int.pow_nonneg (by omega))]
        · simp
        · show (2:Int) ^ i < 2 ^ 32
          have : ((2 ^ i : Nat) : Int) ≤ ((2 ^ 31 : Nat) : Int) := Int.ofNat_le.2 hp
          simp at this
          omega
      have e : (((Math.wv L m i : Nat) : Int) + shl .u32 1 (i : Int)) % 4294967296 = ((Math.wv L m (i + 1) : Nat) : Int) := by
        rw [hshl]
        simp only [Math.wv]
        rw [if_pos hbit]
        omega
      rw [e]
      exact ih k (i + 1) (by omega) (by omega)
    · rw [if_neg hbit]
      have e : Math.wv L m i = Math.wv L m (i + 1) := by simp only [Math.wv]; rw [if_neg hbit, Nat.add_zero]
      rw [e]
      exact ih k (i + 1) (by omega) (by omega)
/-- One round's turns. -/
theorem left_l1 (n : Nat) (hn : n < 900000) (r : Int × List Bool) (d : Nat) : ∀ (j : Nat) (L : List Bool), j + d = 14 → n + 32 < L.length → L.length < 1000000 → L.getD n false = true →
    Ev (fun k => tailraceref01_left.l0 k (Math.togs n L (Math.taps.drop j)) T ((n + 1 : Nat) : Int)) r → Ev (fun k => tailraceref01_left.l1 k L T (n : Int) (j : Int)) r := by
  have hnx : wrap64 ((n : Int) + 1) = ((n + 1 : Nat) : Int) := by rw [wrap1 (by omega) (by omega)]; rfl
  induction d with
  | zero =>
    intro j L hj hl hb hbit h
    obtain rfl : j = 14 := by omega
    refine Ev.step (f := fun k => tailraceref01_left.l0 k L T ((n + 1 : Nat) : Int)) (fun k => ?_) h
    simp only [tailraceref01_left.l1]
    rw [if_neg (by show ¬ ((14 : Nat) : Int) < ((14 : Nat) : Int); omega), hnx]
  | succ d ih =>
    intro j L hj hl hb hbit h
    have hj14 : j < 14 := by omega
    have ht := taps_le j
    have ht6 := taps_ge j hj14
    have hs : wrap64 ((n : Int) + rd T (j : Int)) = ((n + Math.taps.getD j 0 : Nat) : Int) := by rw [T_rd j hj14]; unfold wrap64; omega
    refine Ev.step (f := fun k => tailraceref01_left.l1 k (Math.tog n L (Math.taps.getD j 0)) T (n : Int) ((j + 1 : Nat) : Int)) (fun k => ?_) ?_
    · simp only [tailraceref01_left.l1]
      rw [if_pos (by show ((j : Nat) : Int) < ((14 : Nat) : Int); omega), if_pos (by omega), if_pos (by omega), rdOf_nat, if_pos hbit, if_pos (by omega), hs, if_pos (by omega), if_pos (by omega),
        wrap1 (by omega) (by omega), rdOf_nat, Int.toNat_natCast]
      rfl
    · refine ih (j + 1) _ (by omega) (by rw [show (Math.tog n L (Math.taps.getD j 0)).length = L.length by simp [Math.tog]]; exact hl) (by rw [show (Math.tog n L (Math.taps.getD j 0)).length = L.length by simp [Math.tog]]; exact hb) ?_ ?_
      · unfold Math.tog
        rw [Math.getD_set _ _ _ _ (by omega), if_neg (by omega)]
        exact hbit
      · rw [taps_drop j hj14] at h
        exact h
theorem left_l0 (m : Nat) (hm : m < 900000) (d : Nat) : ∀ (n : Nat) (L : List Bool), n + d = m → L.length = m + 32 →
    ∃ L', Ev (fun k => tailraceref01_left.l0 k L T (n : Int)) (((Math.fin (Math.win L n) (L.drop (n + 32))).toNat : Int), L') := by
  induction d with
  | zero =>
    intro n L hn hl
    obtain rfl : n = m := by omega
    refine ⟨L, Ev.step (f := fun k => tailraceref01_left.l2 k L 0 0) (fun k => ?_) ⟨33, fun k hk => ?_⟩⟩
    · simp only [tailraceref01_left.l0]
      rw [if_neg (by rw [hl]; unfold wrap64; omega)]
    · rw [List.drop_of_length_le (by omega)]
      exact left_l2 L n hl (by omega) 32 k 0 (by omega) (by omega)
  | succ d ih =>
    intro n L hn hl
    have hw : wrap64 ((L.length : Int) - 32) = (m : Int) := by rw [hl]; unfold wrap64; omega
    have hnx : wrap64 ((n : Int) + 1) = ((n + 1 : Nat) : Int) := by rw [wrap1 (by omega) (by omega)]; rfl
    have h32 : n + 32 < L.length := by omega
    have hd : L.drop (n + 32) = L.getD (n + 32) false :: L.drop (n + 33) := by
      rw [List.drop_eq_getElem_cons h32, List.getD_eq_getElem?_getD, List.getElem?_eq_getElem h32]; rfl
    cases hbit : L.getD n false with
    | true =>
      have hdt : (Math.togs n L Math.taps).drop (n + 33) = L.drop (n + 33) := by
        apply List.ext_getElem?
        intro i
        rw [List.getElem?_drop, List.getElem?_drop]
        have e := Math.togs_getD n Math.taps L (by decide) (fun t ht => by
          have : ∀ t ∈ Math.taps, t ≤ 32 := by decide
          have := this t ht; omega) (n + 33 + i)
        have hc : Math.taps.contains (n + 33 + i - n) = false := by
          rw [show n + 33 + i - n = 33 + i by omega]
          rw [List.contains_eq_any_beq]
          simp [Math.taps]
          omega
        rw [hc, Bool.and_false, Bool.bne_false] at e
        rw [List.getD_eq_getElem?_getD, List.getD_eq_getElem?_getD] at e
        have hlen := Math.togs_length n Math.taps L
        by_cases hi : n + 33 + i < L.length
        · rw [List.getElem?_eq_getElem hi, List.getElem?_eq_getElem (by omega)] at e ⊢
          simpa using e
        · rw [List.getElem?_eq_none (by omega), List.getElem?_eq_none (by omega)]
      obtain ⟨L', h⟩ := ih (n + 1) (Math.togs n L Math.taps) (by omega) (by rw [Math.togs_length]; exact hl)
      rw [Math.win_on L n h32 hbit, show n + 1 + 32 = n + 33 by omega, hdt] at h
      refine ⟨L', ?_⟩
      rw [hd]
      refine Ev.step (f := fun k => tailraceref01_left.l1 k L T (n : Int) ((0 : Nat) : Int)) (fun k => ?_) (left_l1 n (by omega) _ 14 0 L (by omega) h32 (by omega) hbit h)
      simp only [tailraceref01_left.l0]
      rw [hw, if_pos (by omega)]
      rfl
    | false =>
      obtain ⟨L', h⟩ := ih (n + 1) L (by omega) hl
      rw [Math.win_off L n hbit, show n + 1 + 32 = n + 33 by omega] at h
      refine ⟨L', ?_⟩
      rw [hd]
      refine Ev.step (f := fun k => tailraceref01_left.l1 k L T (n : Int) ((0 : Nat) : Int)) (fun k => ?_) (Ev.step (f := fun k => tailraceref01_left.l0 k L T ((n + 1 : Nat) : Int)) (fun k => ?_) h)
      · simp only [tailraceref01_left.l0]
        rw [hw, if_pos (by omega)]
        rfl
      · simp only [tailraceref01_left.l1]
        rw [if_pos (by show ((0 : Nat) : Int) < ((14 : Nat) : Int); omega), if_pos (by omega), if_pos (by omega), rdOf_nat, hbit, if_neg (by simp), hnx]
theorem left_f (m : Nat) (hm : m < 900000) (L : List Bool) (hl : L.length = m + 32) :
    ∃ L', Ev (fun k => tailraceref01_left.f k L) (((Math.fin (Math.win L 0) (L.drop 32)).toNat : Int), L') := by
  obtain ⟨L', h⟩ := left_l0 m hm m 0 L (by omega) hl
  rw [Nat.zero_add] at h
  exact ⟨L', h⟩

theorem bit32 (r : BitVec 32) (i : Nat) (hi : i < 32) : (Go.bits .and .u32 (shr .u32 (r.toNat : Int) (i : Int)) 1 == 1) = r.getLsbD i := by
  have e : shr .u32 (r.toNat : Int) (i : Int) = (((r >>> i).toNat : Nat) : Int) := by
    unfold shr
    rw [Int.toNat_natCast, Nat.min_eq_left (by show i ≤ 32; omega), BitVec.toNat_ushiftRight, Nat.shiftRight_eq_div_pow]
    simp
  rw [e]
  have ha : BitVec.ofInt 32 (((r >>> i).toNat : Nat) : Int) = r >>> i := by generalize r >>> i = y; apply BitVec.eq_of_toNat_eq; simp
  have hv : ((r >>> i) &&& 1#32).toNat = if r.getLsbD i then 1 else 0 := by
    rw [BitVec.toNat_and, show (1#32).toNat = 2 ^ 1 - 1 from rfl, Nat.and_two_pow_sub_one_eq_mod, BitVec.toNat_ushiftRight, BitVec.getLsbD, Nat.testBit, Nat.one_and_eq_mod_two]
    have := Nat.mod_two_eq_zero_or_one (r.toNat >>> i)
    rcases this with h | h <;> simp [h]
  have hb : Go.bits .and .u32 (((r >>> i).toNat : Nat) : Int) 1 = ((if r.getLsbD i then 1 else 0 : Nat) : Int) := by
    show IntKind.u32.wrap (((BitVec.ofInt 32 (((r >>> i).toNat : Nat) : Int)) &&& (BitVec.ofInt 32 1)).toNat : Int) = _
    rw [ha, show BitVec.ofInt 32 1 = 1#32 from rfl, hv]
    refine wrap_small rfl (by omega) ?_
    show _ < (2:Int) ^ 32
    split <;> simp
  rw [hb]
  cases r.getLsbD i <;> rfl
theorem bit8 (c : BitVec 8) (i : Nat) (hi : i < 8) : (Go.bits .and .u8 (shr .u8 (c.toNat : Int) (i : Int)) 1 == 1) = c.getLsbD i := by
  have e : shr .u8 (c.toNat : Int) (i : Int) = (((c >>> i).toNat : Nat) : Int) := by
    unfold shr
    rw [Int.toNat_natCast, Nat.min_eq_left (by show i ≤ 8; omega), BitVec.toNat_ushiftRight, Nat.shiftRight_eq_div_pow]
    simp
  rw [e]
  have ha : BitVec.ofInt 8 (((c >>> i).toNat : Nat) : Int) = c >>> i := by generalize c >>> i = y; apply BitVec.eq_of_toNat_eq; simp
  have hv : ((c >>> i) &&& 1#8).toNat = if c.getLsbD i then 1 else 0 := by
    rw [BitVec.toNat_and, show (1#8).toNat = 2 ^ 1 - 1 from rfl, Nat.and_two_pow_sub_one_eq_mod, BitVec.toNat_ushiftRight, BitVec.getLsbD, Nat.testBit, Nat.one_and_eq_mod_two]
    have := Nat.mod_two_eq_zero_or_one (c.toNat >>> i)
    rcases this with h | h <;> simp [h]
  have hb : Go.bits .and .u8 (((c >>> i).toNat : Nat) : Int) 1 = ((if c.getLsbD i then 1 else 0 : Nat) : Int) := by
    show IntKind.u8.wrap (((BitVec.ofInt 8 (((c >>> i).toNat : Nat) : Int)) &&& (BitVec.ofInt 8 1)).toNat : Int) = _
    rw [ha, show BitVec.ofInt 8 1 = 1#8 from rfl, hv]
    refine wrap_small rfl (by omega) ?_
    show _ < (2:Int) ^ 8
    split <;> simp
  rw [hb]
  cases c.getLsbD i <;> rfl
/-- The line that ref's Step makes. -/
theorem rstep_l0 (r : BitVec 32) (c : BitVec 8) (d : Nat) : ∀ (i : Nat) (L : List Bool), i + d = 32 → L.length = 40 →
    (∀ p, L.getD p false = if p < i then (r ^^^ c.setWidth 32).getLsbD p else false) →
    Ev (fun k => tailraceref01_Step.l0 k (r.toNat : Int) (c.toNat : Int) L (i : Int)) ((Math.stepB r c).toNat : Int) := by
  induction d with
  | zero =>
    intro i L hi hl h
    obtain rfl : i = 32 := by omega
    obtain ⟨L', hL⟩ := left_f 8 (by omega) L hl
    have e : Math.fin (Math.win L 0) (L.drop 32) = Math.stepB r c := by
      have hw : Math.win L 0 = r ^^^ c.setWidth 32 := by
        apply Math.win_ext
        intro i hi
        rw [Nat.zero_add, h i, if_pos hi]
      have hd : L.drop 32 = List.replicate 8 false := by
        apply List.ext_getElem?
        intro i
        rw [List.getElem?_drop, List.getElem?_replicate]
        by_cases h8 : i < 8
        · have := h (32 + i)
          rw [if_neg (by omega), List.getD_eq_getElem?_getD, List.getElem?_eq_getElem (by omega)] at this
          rw [List.getElem?_eq_getElem (by omega), if_pos h8]
          simpa using this
        · rw [List.getElem?_eq_none (by omega), if_neg h8]
      rw [hw, hd, Math.fin_zeros]
      rfl
    rw [e] at hL
    refine Ev.step (f := fun k => (tailraceref01_left.f k L).bind fun bt120 => some bt120.1) (fun k => ?_) (Ev.bind hL (Ev.now _))
    simp only [tailraceref01_Step.l0]
    rw [if_neg (by omega)]
  | succ d ih =>
    intro i L hi hl h
    have hlt : i < 32 := by omega
    have hnx : wrap64 ((i : Int) + 1) = ((i + 1 : Nat) : Int) := by rw [wrap1 (by omega) (by omega)]; rfl
    have h1 : (L.set i (r.getLsbD i)).length = 40 := by simpa using hl
    by_cases h8 : i < 8
    · refine Ev.step (f := fun k => tailraceref01_Step.l0 k (r.toNat : Int) (c.toNat : Int) ((L.set i (r.getLsbD i)).set i (r.getLsbD i != c.getLsbD i)) ((i + 1 : Nat) : Int)) (fun k => ?_) (ih (i + 1) _ (by omega) (by simpa using hl) ?_)
      · simp only [tailraceref01_Step.l0]
        rw [if_pos (by omega), if_pos (by omega), if_pos (by omega)]
        simp only [Option.bind_some]
        rw [if_pos (by omega), Int.toNat_natCast, rdOf_nat, bit32 r i hlt, bit8 c i h8, hnx, Math.getD_set _ _ _ _ (by omega), if_pos rfl]
      · intro p
        rw [Math.getD_set _ _ _ _ (by omega), Math.getD_set _ _ _ _ (by omega), h p]
        by_cases hp : p = i
        · subst hp
          rw [if_pos rfl, if_pos (by omega), BitVec.getLsbD_xor, BitVec.getLsbD_setWidth]
          simp [hlt]
        · rw [if_neg hp, if_neg hp]
          by_cases hpi : p < i
          · rw [if_pos hpi, if_pos (by omega)]
          · rw [if_neg hpi, if_neg (by omega)]
    · refine Ev.step (f := fun k => tailraceref01_Step.l0 k (r.toNat : Int) (c.toNat : Int) (L.set i (r.getLsbD i)) ((i + 1 : Nat) : Int)) (fun k => ?_) (ih (i + 1) _ (by omega) (by simpa using hl) ?_)
      · simp only [tailraceref01_Step.l0]
        rw [if_pos (by omega), if_pos (by omega), if_pos (by omega)]
        simp only [Option.bind_some]
        rw [if_neg (by omega), Int.toNat_natCast, bit32 r i hlt, hnx]
      · intro p
        rw [Math.getD_set _ _ _ _ (by omega), h p]
        by_cases hp : p = i
        · subst hp
          rw [if_pos rfl, if_pos (by omega), BitVec.getLsbD_xor, BitVec.getLsbD_setWidth, BitVec.getLsbD_of_ge c _ (by omega)]
          simp
        · rw [if_neg hp]
          by_cases hpi : p < i
          · rw [if_pos hpi, if_pos (by omega)]
          · rw [if_neg hpi, if_neg (by omega)]
theorem rstep_f (r : BitVec 32) (c : BitVec 8) : Ev (fun k => tailraceref01_Step.f k (r.toNat : Int) (c.toNat : Int)) ((Math.stepB r c).toNat : Int) := by
  unfold tailraceref01_Step.f
  simp only [show (40 : Nat) ≤ 281474976710656 from by omega, if_true]
  refine rstep_l0 r c 32 0 _ (by omega) (by simp) (fun p => ?_)
  rw [if_neg (by omega), List.getD_eq_getElem?_getD, List.getElem?_replicate]
  split <;> rfl
theorem CrcTurns : tailracelaw01_CrcTurns.Pure := by
  intro a0 a1 h0 h1
  have hx : 0 ≤ a0 ∧ a0 ≤ 4294967295 := by simpa [Lit.wf, IntKind.min, IntKind.max, IntKind.signed, IntKind.bits] using h0
  have hy : 0 ≤ a1 ∧ a1 ≤ 255 := by simpa [Lit.wf, IntKind.min, IntKind.max, IntKind.signed, IntKind.bits] using h1
  obtain ⟨r, rfl⟩ : ∃ r : BitVec 32, a0 = (r.toNat : Int) := ⟨BitVec.ofNat 32 a0.toNat, by rw [BitVec.toNat_ofNat]; omega⟩
  obtain ⟨c, rfl⟩ : ∃ c : BitVec 8, a1 = (c.toNat : Int) := ⟨BitVec.ofNat 8 a1.toNat, by rw [BitVec.toNat_ofNat]; omega⟩
  refine Ev.rounds (Ev.bind (a := ((Math.stepB r c).toNat : Int)) ⟨8, fun k hk => step_f k hk r c⟩ (Ev.bind (rstep_f r c) ?_))
  simp only [if_true]
  exact Ev.bind (a := true) ⟨20, fun k hk => works_f k hk⟩ (Ev.now _)


end Go.Proofs.Ytnnhlladcmgmnaa.Pure
