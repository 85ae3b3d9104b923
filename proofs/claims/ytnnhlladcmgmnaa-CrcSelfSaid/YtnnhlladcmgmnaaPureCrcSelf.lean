/-
  The Sum of any bytes (at most 1000; of more nothing is asked but the known examples) with their own Sum behind them is 0x2144DF1C, and the Steps over them lead to its complement.
-/
import Derived.Test.YtnnhlladcmgmnaaPCrcSelfx1
import Derived.Test.YtnnhlladcmgmnaaMath
namespace Go.Proofs.Ytnnhlladcmgmnaa.Pure
open Go.RowKit Go.Proofs.Ytnnhlladcmgmnaa.PCrcSelf Go.Proofs.YtnnhlladcmgmnaaW.PrintWords Go.Proofs.YtnnhlladcmgmnaaW.PrintLast Go.Proofs.YtnnhlladcmgmnaaW.PrintMore
set_option linter.unusedVariables false
/-! what the printed functions of crc come to, in the words of Math -/
theorem wrap_small {k : IntKind} (hk : k.signed = false) {n : Int} (h0 : 0 ≤ n) (h : n < 2 ^ k.bits) : k.wrap n = n := by
  cases k <;> simp_all [IntKind.wrap, IntKind.signed, IntKind.bits] <;> omega
theorem xor32 (a b : BitVec 32) : Go.bits .xor .u32 (a.toNat : Int) (b.toNat : Int) = ((a ^^^ b).toNat : Int) := by
  have ha : BitVec.ofInt 32 (a.toNat : Int) = a := by apply BitVec.eq_of_toNat_eq; simp
  have hb : BitVec.ofInt 32 (b.toNat : Int) = b := by apply BitVec.eq_of_toNat_eq; simp
  show IntKind.u32.wrap (((BitVec.ofInt 32 (a.toNat : Int)) ^^^ (BitVec.ofInt 32 (b.toNat : Int))).toNat : Int) = _
  rw [ha, hb]
  exact wrap_small rfl (by omega) (by have := (a ^^^ b).isLt; show _ < (2:Int) ^ 32; omega)
theorem not32 (a : BitVec 32) : Go.bits .xor .u32 IntKind.u32.max (a.toNat : Int) = ((~~~a).toNat : Int) := by
  have e : (IntKind.u32.max : Int) = ((BitVec.allOnes 32).toNat : Int) := by decide
  rw [e, xor32]
  rw [BitVec.allOnes_xor]
theorem wrap1 {i : Int} (h0 : 0 ≤ i) (h : i < 1000000) : wrap64 (i + 1) = i + 1 := by unfold wrap64; omega

theorem worn_tab (n : Nat) (hn : n < 16) : crc_worn.f 5 (n : Int) = some ((Math.fourTab.getD n 0 : Nat) : Int) := by
  have h : ∀ m : Fin 16, crc_worn.f 5 ((m.1 : Nat) : Int) = some ((Math.fourTab.getD m.1 0 : Nat) : Int) := by decide +kernel
  exact h ⟨n, hn⟩
theorem worn_four (x : BitVec 32) : crc_worn.f 5 (Int.tmod (x.toNat : Int) 16) = some ((Math.four x).toNat : Int) := by
  have e : Int.tmod (x.toNat : Int) 16 = ((x.toNat % 16 : Nat) : Int) := by
    rw [Int.tmod_eq_emod_of_nonneg (by omega)]; omega
  rw [e, worn_tab _ (Nat.mod_lt _ (by omega)), Math.four_tab]
theorem step_l0 (k : Nat) (hk : 8 ≤ k) (x : BitVec 32) : crc_Step.l0 k (x.toNat : Int) 0 = some ((Math.BN 8 x).toNat : Int) := by
  have one : ∀ (j : Nat) (hj : 5 ≤ j) (y : BitVec 32) (i : Int), i < 2 → crc_Step.l0 (j + 1) (y.toNat : Int) i = crc_Step.l0 j ((Math.BN 4 y).toNat : Int) (wrap64 (i + 1)) := by
    intro j hj y i hi
    simp only [crc_Step.l0]
    rw [if_pos hi, at_rounds (fun k => crc_worn.mono _ k) hj (worn_four y)]
    simp only [Option.bind_some]
    have e : (y.toNat : Int) / (16 : Int) = ((y >>> 4).toNat : Int) := by
      rw [BitVec.toNat_ushiftRight, Nat.shiftRight_eq_div_pow]; omega
    rw [e, xor32, Math.BN4]
  obtain ⟨k, rfl⟩ : ∃ m, k = m + 3 := ⟨k - 3, by omega⟩
  rw [one (k + 2) (by omega) x 0 (by omega), show wrap64 (0 + 1) = 1 from by decide +kernel, one (k + 1) (by omega) _ 1 (by omega), show wrap64 (1 + 1) = 2 from by decide +kernel]
  simp only [crc_Step.l0]
  rw [if_neg (by omega), ← Math.BN8]
theorem step_f (k : Nat) (hk : 8 ≤ k) (r : BitVec 32) (c : BitVec 8) : crc_Step.f k (r.toNat : Int) (c.toNat : Int) = some ((Math.stepB r c).toNat : Int) := by
  unfold crc_Step.f
  have e : ((c.toNat : Int) % 4294967296) = ((c.setWidth 32).toNat : Int) := by
    rw [BitVec.toNat_setWidth]; have := c.isLt; omega
  rw [e, xor32, step_l0 k hk]
  rfl
theorem sum_l0 (l : List (BitVec 8)) (d : Nat) : ∀ (k j : Nat) (r : BitVec 32), l.length < 1000000 → j + d = l.length → d + 9 ≤ k →
    crc_Sum.l0 k (r.toNat : Int) (l.map fun c => (c.toNat : Int)) (l.length : Int) (j : Int) = some ((~~~(Math.row r (l.drop j))).toNat : Int) := by
  induction d with
  | zero =>
    intro k j r hl hj hk
    obtain ⟨k, rfl⟩ : ∃ m, k = m + 1 := ⟨k - 1, by omega⟩
    simp only [crc_Sum.l0]
    rw [if_neg (by omega), not32, List.drop_of_length_le (by omega)]
    rfl
  | succ d ih =>
    intro k j r hl hj hk
    obtain ⟨k, rfl⟩ : ∃ m, k = m + 1 := ⟨k - 1, by omega⟩
    have hlt : j < l.length := by omega
    have hrd : rd (l.map fun c => (c.toNat : Int)) (j : Int) = ((l[j].toNat : Nat) : Int) := by
      unfold rd
      rw [Int.toNat_natCast, List.getD_eq_getElem?_getD, List.getElem?_map, List.getElem?_eq_getElem hlt]
      rfl
    simp only [crc_Sum.l0]
    rw [if_pos (by omega), if_pos (by omega), if_pos (by rw [List.length_map]; omega), hrd, step_f k (by omega)]
    simp only [Option.bind_some]
    rw [wrap1 (by omega) (by omega), show ((j : Int) + 1) = ((j + 1 : Nat) : Int) from rfl, ih k (j + 1) _ hl (by omega) (by omega)]
    rw [List.drop_eq_getElem_cons hlt]
    rfl
theorem sum_f (l : List (BitVec 8)) (hl : l.length < 1000000) (k : Nat) (hk : l.length + 9 ≤ k) :
    crc_Sum.f k (l.map fun c => (c.toNat : Int)) = some ((~~~(Math.row (BitVec.allOnes 32) l)).toNat : Int) := by
  unfold crc_Sum.f
  have h := sum_l0 l l.length k 0 (BitVec.allOnes 32) hl (by omega) hk
  rw [List.drop_zero] at h
  rw [List.length_map]
  exact h
theorem works_f (k : Nat) (hk : 20 ≤ k) : tailracelaw01_works.f k = some true := at_rounds tailracelaw01_works.mono hk works_true
/-- Bytes of the argument, as bytes. -/
theorem bytes_of (l : List Int) (h : ∀ x ∈ l, (Lit.int .u8 x).wf = true) : ∃ b : List (BitVec 8), l = b.map fun c => (c.toNat : Int) := by
  induction l with
  | nil => exact ⟨[], rfl⟩
  | cons x l ih =>
    obtain ⟨b, rfl⟩ := ih (fun y hy => h y (List.mem_cons_of_mem _ hy))
    have hx : 0 ≤ x ∧ x ≤ 255 := by have := h x (List.mem_cons_self ..); simpa [Lit.wf, IntKind.min, IntKind.max, IntKind.signed, IntKind.bits] using this
    refine ⟨BitVec.ofNat 8 x.toNat :: b, ?_⟩
    rw [List.map_cons]
    congr 1
    rw [BitVec.toNat_ofNat]
    omega

theorem self_l0 (l : List (BitVec 8)) (d : Nat) : ∀ (k j : Nat) (r : BitVec 32), l.length < 1000000 → j + d = l.length → d + l.length + 40 ≤ k →
    Math.row (BitVec.allOnes 32) l = 0xDEBB20E3#32 → Math.row r (l.drop j) = 0xDEBB20E3#32 →
    tailracelaw01_CrcSelf.l0 k (l.map fun c => (c.toNat : Int)) (r.toNat : Int) (j : Int) = some true := by
  induction d with
  | zero =>
    intro k j r hl hj hk hs hr
    obtain ⟨k, rfl⟩ : ∃ m, k = m + 1 := ⟨k - 1, by omega⟩
    rw [List.drop_of_length_le (by omega)] at hr
    have hr' : r = 0xDEBB20E3#32 := hr
    simp only [tailracelaw01_CrcSelf.l0]
    rw [if_neg (by rw [List.length_map]; omega), sum_f l hl k (by omega), hs]
    simp only [Option.bind_some]
    rw [if_pos (by decide), hr', not32, if_pos (by decide), works_f k (by omega)]
    rfl
  | succ d ih =>
    intro k j r hl hj hk hs hr
    obtain ⟨k, rfl⟩ : ∃ m, k = m + 1 := ⟨k - 1, by omega⟩
    have hlt : j < l.length := by omega
    have hrd : rd (l.map fun c => (c.toNat : Int)) (j : Int) = ((l[j].toNat : Nat) : Int) := by
      unfold rd
      rw [Int.toNat_natCast, List.getD_eq_getElem?_getD, List.getElem?_map, List.getElem?_eq_getElem hlt]
      rfl
    simp only [tailracelaw01_CrcSelf.l0]
    rw [if_pos (by rw [List.length_map]; omega), if_pos (by omega), hrd, step_f k (by omega)]
    simp only [Option.bind_some]
    rw [wrap1 (by omega) (by omega), show ((j : Int) + 1) = ((j + 1 : Nat) : Int) from rfl]
    refine ih k (j + 1) _ hl (by omega) (by omega) hs ?_
    rw [List.drop_eq_getElem_cons hlt] at hr
    exact hr
theorem CrcSelf : tailracelaw01_CrcSelf.Pure := by
  intro l0 hm hb hw
  obtain ⟨b, rfl⟩ := bytes_of l0 hw
  have hm' := hm
  refine ⟨3000, ?_⟩
  unfold tailracelaw01_CrcSelf.f
  by_cases h : ((b.map fun c => (c.toNat : Int)).length : Int) > 1000
  · rw [if_pos h, works_f 3000 (by omega)]; rfl
  · rw [if_neg h]
    rw [List.length_map] at h
    have hl : b.length ≤ 1000 := by omega
    rw [sum_f b (by omega) 3000 (by omega)]
    simp only [Option.bind_some, List.nil_append, List.length_nil, List.length_map, List.length_cons]
    rw [if_pos (by omega), if_pos (by omega)]
    generalize hn : ~~~Math.row (BitVec.allOnes 32) b = n
    have e : ([(n.toNat : Int) % 256, (n.toNat : Int) / 256 % 256, (n.toNat : Int) / 65536 % 256, (n.toNat : Int) / 16777216 % 256] : List Int) = (Math.bytesOf n).map fun c => (c.toNat : Int) := by
      unfold Math.bytesOf
      simp only [List.map_cons, List.map_nil, BitVec.toNat_setWidth, BitVec.toNat_ushiftRight, Nat.shiftRight_eq_div_pow]
      simp
    rw [e, ← List.map_append]
    have hs : Math.row (BitVec.allOnes 32) (b ++ Math.bytesOf n) = 0xDEBB20E3#32 := by
      rw [Math.row_append, ← hn, Math.self]
    have h4 : (Math.bytesOf n).length = 4 := rfl
    exact self_l0 (b ++ Math.bytesOf n) (b ++ Math.bytesOf n).length 3000 0 (BitVec.allOnes 32) (by rw [List.length_append]; omega) (by omega) (by rw [List.length_append]; omega) hs (by rw [List.drop_zero]; exact hs)


end Go.Proofs.Ytnnhlladcmgmnaa.Pure
