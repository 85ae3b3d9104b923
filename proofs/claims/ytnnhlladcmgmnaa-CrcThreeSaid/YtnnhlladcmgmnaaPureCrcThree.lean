/-
  Of three rows of one length (the shortest one's counts; at most 1000 bytes; of more nothing is asked but the known examples), and of the three added bit by bit, the four Sums added bit by bit are 0.
-/
import Derived.Test.YtnnhlladcmgmnaaPCrcThreex2
import Derived.Test.YtnnhlladcmgmnaaMath
namespace Go.Proofs.Ytnnhlladcmgmnaa.Pure
open Go.RowKit Go.Proofs.Ytnnhlladcmgmnaa.PCrcThree Go.Proofs.YtnnhlladcmgmnaaW.PrintWords Go.Proofs.YtnnhlladcmgmnaaW.PrintLast Go.Proofs.YtnnhlladcmgmnaaW.PrintMore
set_option linter.unusedVariables false
/-! what the printed functions of crc come to, in the words of Math -/
theorem wrap_small {k : IntKind} (hk : k.signed = false) {n : Int} (h0 : 0 ≤ n) (h : n < 2 ^ k.bits) : k.wrap n = n := by
  cases k <;> simp_all [IntKind.wrap, IntKind.signed, IntKind.bits] <;> omega
theorem xor32 (a b : BitVec 32) : Go.bits .xor .u32 (a.toNat : Int) (b.toNat : Int) = ((a ^^^ b).toNat : Int) := by
  have ha : BitVec.ofInt 32 (a.toNat : Int) = a := by apply BitVec.eq_of_toNat_eq; simp
  have hb : BitVec.ofInt 32 (b.toNat : Int) = b := by apply BitVec.eq_of_toNat_eq; simp
  show IntKind.u32.wrap (((BitVec.ofInt 32 (a.toNat : Int)) ^^^ (BitVec.ofInt 32 (b.toNat : Int))).toNat : Int) = _
  rw [ha, hb]
  exact wrap_small rfl (by omega) (by have := (a ^^^ b).isLt; show _ < (2:Int) ^ 32; omega)
theorem not32 (a : BitVec 32) : Go.bits .xor .u32 IntKind.u32.max (a.toNat : Int) = ((~~~a).toNat : Int) := by
  have e : (IntKind.u32.max : Int) = ((BitVec.allOnes 32).toNat : Int) := by decide
  rw [e, xor32]
  rw [BitVec.allOnes_xor]
theorem wrap1 {i : Int} (h0 : 0 ≤ i) (h : i < 1000000) : wrap64 (i + 1) = i + 1 := by unfold wrap64; omega

theorem worn_tab (n : Nat) (hn : n < 16) : crc_worn.f 5 (n : Int) = some ((Math.fourTab.getD n 0 : Nat) : Int) := by
  have h : ∀ m : Fin 16, crc_worn.f 5 ((m.1 : Nat) : Int) = some ((Math.fourTab.getD m.1 0 : Nat) : Int) := by decide +kernel
  exact h ⟨n, hn⟩
theorem worn_four (x : BitVec 32) : crc_worn.f 5 (Int.tmod (x.toNat : Int) 16) = some ((Math.four x).toNat : Int) := by
  have e : Int.tmod (x.toNat : Int) 16 = ((x.toNat % 16 : Nat) : Int) := by
    rw [Int.tmod_eq_emod_of_nonneg (by omega)]; omega
  rw [e, worn_tab _ (Nat.mod_lt _ (by omega)), Math.four_tab]
theorem step_l0 (k : Nat) (hk : 8 ≤ k) (x : BitVec 32) : crc_Step.l0 k (x.toNat : Int) 0 = some ((Math.BN 8 x).toNat : Int) := by
  have one : ∀ (j : Nat) (hj : 5 ≤ j) (y : BitVec 32) (i : Int), i < 2 → crc_Step.l0 (j + 1) (y.toNat : Int) i = crc_Step.l0 j ((Math.BN 4 y).toNat : Int) (wrap64 (i + 1)) := by
    intro j hj y i hi
    simp only [crc_Step.l0]
    rw [if_pos hi, at_rounds (fun k => crc_worn.mono _ k) hj (worn_four y)]
    simp only [Option.bind_some]
    have e : (y.toNat : Int) / (16 : Int) = ((y >>> 4).toNat : Int) := by
      rw [BitVec.toNat_ushiftRight, Nat.shiftRight_eq_div_pow]; omega
    rw [e, xor32, Math.BN4]
  obtain ⟨k, rfl⟩ : ∃ m, k = m + 3 := ⟨k - 3, by omega⟩
  rw [one (k + 2) (by omega) x 0 (by omega), show wrap64 (0 + 1) = 1 from by decide +kernel, one (k + 1) (by omega) _ 1 (by omega), show wrap64 (1 + 1) = 2 from by decide +kernel]
  simp only [crc_Step.l0]
  rw [if_neg (by omega), ← Math.BN8]
theorem step_f (k : Nat) (hk : 8 ≤ k) (r : BitVec 32) (c : BitVec 8) : crc_Step.f k (r.toNat : Int) (c.toNat : Int) = some ((Math.stepB r c).toNat : Int) := by
  unfold crc_Step.f
  have e : ((c.toNat : Int) % 4294967296) = ((c.setWidth 32).toNat : Int) := by
    rw [BitVec.toNat_setWidth]; have := c.isLt; omega
  rw [e, xor32, step_l0 k hk]
  rfl
theorem sum_l0 (l : List (BitVec 8)) (d : Nat) : ∀ (k j : Nat) (r : BitVec 32), l.length < 1000000 → j + d = l.length → d + 9 ≤ k →
    crc_Sum.l0 k (r.toNat : Int) (l.map fun c => (c.toNat : Int)) (l.length : Int) (j : Int) = some ((~~~(Math.row r (l.drop j))).toNat : Int) := by
  induction d with
  | zero =>
    intro k j r hl hj hk
    obtain ⟨k, rfl⟩ : ∃ m, k = m + 1 := ⟨k - 1, by omega⟩
    simp only [crc_Sum.l0]
    rw [if_neg (by omega), not32, List.drop_of_length_le (by omega)]
    rfl
  | succ d ih =>
    intro k j r hl hj hk
    obtain ⟨k, rfl⟩ : ∃ m, k = m + 1 := ⟨k - 1, by omega⟩
    have hlt : j < l.length := by omega
    have hrd : rd (l.map fun c => (c.toNat : Int)) (j : Int) = ((l[j].toNat : Nat) : Int) := by
      unfold rd
      rw [Int.toNat_natCast, List.getD_eq_getElem?_getD, List.getElem?_map, List.getElem?_eq_getElem hlt]
      rfl
    simp only [crc_Sum.l0]
    rw [if_pos (by omega), if_pos (by omega), if_pos (by rw [List.length_map]; omega), hrd, step_f k (by omega)]
    simp only [Option.bind_some]
    rw [wrap1 (by omega) (by omega), show ((j : Int) + 1) = ((j + 1 : Nat) : Int) from rfl, ih k (j + 1) _ hl (by omega) (by omega)]
    rw [List.drop_eq_getElem_cons hlt]
    rfl
theorem sum_f (l : List (BitVec 8)) (hl : l.length < 1000000) (k : Nat) (hk : l.length + 9 ≤ k) :
    crc_Sum.f k (l.map fun c => (c.toNat : Int)) = some ((~~~(Math.row (BitVec.allOnes 32) l)).toNat : Int) := by
  unfold crc_Sum.f
  have h := sum_l0 l l.length k 0 (BitVec.allOnes 32) hl (by omega) hk
  rw [List.drop_zero] at h
  rw [List.length_map]
  exact h
theorem works_f (k : Nat) (hk : 20 ≤ k) : tailracelaw01_works.f k = some true := at_rounds tailracelaw01_works.mono hk works_true
/-- Bytes of the argument, as bytes. -/
theorem bytes_of (l : List Int) (h : ∀ x ∈ l, (Lit.int .u8 x).wf = true) : ∃ b : List (BitVec 8), l = b.map fun c => (c.toNat : Int) := by
  induction l with
  | nil => exact ⟨[], rfl⟩
  | cons x l ih =>
    obtain ⟨b, rfl⟩ := ih (fun y hy => h y (List.mem_cons_of_mem _ hy))
    have hx : 0 ≤ x ∧ x ≤ 255 := by have := h x (List.mem_cons_self ..); simpa [Lit.wf, IntKind.min, IntKind.max, IntKind.signed, IntKind.bits] using this
    refine ⟨BitVec.ofNat 8 x.toNat :: b, ?_⟩
    rw [List.map_cons]
    congr 1
    rw [BitVec.toNat_ofNat]
    omega

theorem xor8 (a b : BitVec 8) : Go.bits .xor .u8 (a.toNat : Int) (b.toNat : Int) = ((a ^^^ b).toNat : Int) := by
  have ha : BitVec.ofInt 8 (a.toNat : Int) = a := by apply BitVec.eq_of_toNat_eq; simp
  have hb : BitVec.ofInt 8 (b.toNat : Int) = b := by apply BitVec.eq_of_toNat_eq; simp
  show IntKind.u8.wrap (((BitVec.ofInt 8 (a.toNat : Int)) ^^^ (BitVec.ofInt 8 (b.toNat : Int))).toNat : Int) = _
  rw [ha, hb]
  exact wrap_small rfl (by omega) (by have := (a ^^^ b).isLt; show _ < (2:Int) ^ 8; omega)
theorem rd_bytes (b : List (BitVec 8)) (j : Nat) (hlt : j < b.length) : rd (b.map fun c => (c.toNat : Int)) (j : Int) = ((b[j].toNat : Nat) : Int) := by
  unfold rd
  rw [Int.toNat_natCast, List.getD_eq_getElem?_getD, List.getElem?_map, List.getElem?_eq_getElem hlt]
  rfl
def xor3 (a b c : List (BitVec 8)) : List (BitVec 8) := List.zipWith (· ^^^ ·) (List.zipWith (· ^^^ ·) a b) c
theorem three_l0 (a b c : List (BitVec 8)) (n : Nat) (ha : n ≤ a.length) (hb : n ≤ b.length) (hc : n ≤ c.length) (hn : n ≤ 1000) (d : Nat) : ∀ (i : Nat) (z : List (BitVec 8)), i + d = n → z.length = n →
    (∀ p (hp : p < n), z[p]? = some (if p < i then a[p] ^^^ b[p] ^^^ c[p] else 0#8)) →
    Ev (fun k => tailracelaw01_CrcThree.l0 k (a.map fun c => (c.toNat : Int)) (b.map fun c => (c.toNat : Int)) (c.map fun c => (c.toNat : Int)) (n : Int) (z.map fun c => (c.toNat : Int)) (i : Int)) true := by
  induction d with
  | zero =>
    intro i z hi hl h
    obtain rfl : i = n := by omega
    have hz : z = xor3 (a.take i) (b.take i) (c.take i) := by
      unfold xor3
      apply List.ext_getElem?
      intro p
      by_cases hp : p < i
      · rw [h p hp, if_pos hp, List.getElem?_zipWith, List.getElem?_zipWith, List.getElem?_take_of_lt hp, List.getElem?_take_of_lt hp, List.getElem?_take_of_lt hp, List.getElem?_eq_getElem (by omega : p < a.length), List.getElem?_eq_getElem (by omega : p < b.length), List.getElem?_eq_getElem (by omega : p < c.length)]
      · rw [List.getElem?_eq_none (by omega), List.getElem?_eq_none]
        simp only [List.length_zipWith, List.length_take]
        omega
    have hla : (a.take i).length = i := by rw [List.length_take]; omega
    have hlb : (b.take i).length = i := by rw [List.length_take]; omega
    have hlc : (c.take i).length = i := by rw [List.length_take]; omega
    have hlz : (List.zipWith (· ^^^ ·) (a.take i) (b.take i)).length = i := by rw [List.length_zipWith, hla, hlb]; omega
    have hall : Math.row (BitVec.allOnes 32) z = Math.row (BitVec.allOnes 32) (a.take i) ^^^ Math.row (BitVec.allOnes 32) (b.take i) ^^^ Math.row (BitVec.allOnes 32) (c.take i) := by
      rw [hz]
      have h1 := Math.row_xor (List.zipWith (· ^^^ ·) (a.take i) (b.take i)) (c.take i) (BitVec.allOnes 32 ^^^ BitVec.allOnes 32) (BitVec.allOnes 32) (by rw [hlz, hlc])
      have h2 := Math.row_xor (a.take i) (b.take i) (BitVec.allOnes 32) (BitVec.allOnes 32) (by rw [hla, hlb])
      rw [h2] at h1
      have e : (BitVec.allOnes 32 ^^^ BitVec.allOnes 32) ^^^ BitVec.allOnes 32 = BitVec.allOnes 32 := by decide
      rw [e] at h1
      exact h1
    have hx : (~~~(Math.row (BitVec.allOnes 32) (a.take i)) ^^^ ~~~(Math.row (BitVec.allOnes 32) (b.take i))) ^^^ ~~~(Math.row (BitVec.allOnes 32) (c.take i)) ^^^ ~~~(Math.row (BitVec.allOnes 32) z) = 0#32 := by
      rw [hall]
      generalize Math.row (BitVec.allOnes 32) (a.take i) = u
      generalize Math.row (BitVec.allOnes 32) (b.take i) = v
      generalize Math.row (BitVec.allOnes 32) (c.take i) = x
      apply BitVec.eq_of_getLsbD_eq
      intro j hj
      simp only [BitVec.getLsbD_xor, BitVec.getLsbD_not, hj, decide_true, Bool.true_and]
      cases u.getLsbD j <;> cases v.getLsbD j <;> cases x.getLsbD j <;> simp
    have s1 : Ev (fun k => crc_Sum.f k ((a.take i).map fun c => (c.toNat : Int))) _ := ⟨(a.take i).length + 9, fun k hk => sum_f (a.take i) (by omega) k hk⟩
    have s2 : Ev (fun k => crc_Sum.f k ((b.take i).map fun c => (c.toNat : Int))) _ := ⟨(b.take i).length + 9, fun k hk => sum_f (b.take i) (by omega) k hk⟩
    have s3 : Ev (fun k => crc_Sum.f k ((c.take i).map fun c => (c.toNat : Int))) _ := ⟨(c.take i).length + 9, fun k hk => sum_f (c.take i) (by omega) k hk⟩
    have s4 : Ev (fun k => crc_Sum.f k (z.map fun c => (c.toNat : Int))) _ := ⟨z.length + 9, fun k hk => sum_f z (by omega) k hk⟩
    refine Ev.step (f := fun k => (crc_Sum.f k ((a.take i).map fun c => (c.toNat : Int))).bind fun t119 => (crc_Sum.f k ((b.take i).map fun c => (c.toNat : Int))).bind fun t121 => (crc_Sum.f k ((c.take i).map fun c => (c.toNat : Int))).bind fun t123 => (crc_Sum.f k (z.map fun c => (c.toNat : Int))).bind fun t124 =>
        (if (Go.bits .xor .u32 (Go.bits .xor .u32 (Go.bits .xor .u32 t119 t121) t123) t124) = 0 then ((tailracelaw01_works.f k).bind fun t125 => (some t125)) else (some false))) (fun k => ?_) (Ev.bind s1 (Ev.bind s2 (Ev.bind s3 (Ev.bind s4 ?_))))
    · simp only [tailracelaw01_CrcThree.l0]
      rw [if_neg (by omega), if_pos (by omega), if_pos (by rw [List.length_map]; omega), Int.toNat_natCast, ← List.map_take, ← List.map_take, ← List.map_take]
      have g1 : (i : Int) ≤ ((b.map fun c => (c.toNat : Int)).length : Int) := by rw [List.length_map]; omega
      have g2 : (i : Int) ≤ ((c.map fun c => (c.toNat : Int)).length : Int) := by rw [List.length_map]; omega
      simp only [if_pos g1, if_pos g2]
    · simp only [xor32, hx]
      simp only [show ((0#32).toNat : Int) = 0 from rfl, if_true]
      exact Ev.bind (a := true) ⟨20, fun k hk => works_f k hk⟩ (Ev.now _)
  | succ d ih =>
    intro i z hi hl h
    have hix : wrap64 ((i : Int) + 1) = ((i + 1 : Nat) : Int) := by rw [wrap1 (by omega) (by omega)]; rfl
    have hai : i < a.length := by omega
    have hbi : i < b.length := by omega
    have hci : i < c.length := by omega
    refine Ev.step (f := fun k => tailracelaw01_CrcThree.l0 k (a.map fun c => (c.toNat : Int)) (b.map fun c => (c.toNat : Int)) (c.map fun c => (c.toNat : Int)) (n : Int) ((z.set i (a[i] ^^^ b[i] ^^^ c[i])).map fun c => (c.toNat : Int)) ((i + 1 : Nat) : Int)) (fun k => ?_) (ih (i + 1) (z.set i (a[i] ^^^ b[i] ^^^ c[i])) (by omega) (by rw [List.length_set]; exact hl) ?_)
    · simp only [tailracelaw01_CrcThree.l0]
      rw [if_pos (by omega), if_pos (by omega), if_pos (by rw [List.length_map]; omega), if_pos (by rw [List.length_map]; omega), if_pos (by rw [List.length_map]; omega), if_pos (by rw [List.length_map]; omega), Int.toNat_natCast,
        rd_bytes a i hai, rd_bytes b i hbi, rd_bytes c i hci, xor8, xor8, hix, List.map_set]
    · intro p hp
      rw [List.getElem?_set]
      by_cases hpi : i = p
      · subst hpi
        rw [if_pos rfl, if_pos (by omega), if_pos (by omega)]
      · rw [if_neg hpi, h p hp]
        by_cases hlt : p < i
        · rw [if_pos hlt, if_pos (by omega)]
        · rw [if_neg hlt, if_neg (by omega)]
theorem CrcThree : tailracelaw01_CrcThree.Pure := by
  intro l0 l1 l2 hm0 hb0 hw0 hm1 hb1 hw1 hm2 hb2 hw2
  obtain ⟨a, rfl⟩ := bytes_of l0 hw0
  obtain ⟨b, rfl⟩ := bytes_of l1 hw1
  obtain ⟨c, rfl⟩ := bytes_of l2 hw2
  refine Ev.rounds ?_
  unfold tailracelaw01_CrcThree.f
  have e : mn (mn ((a.map fun c => (c.toNat : Int)).length : Int) ((b.map fun c => (c.toNat : Int)).length : Int)) ((c.map fun c => (c.toNat : Int)).length : Int) = ((min (min a.length b.length) c.length : Nat) : Int) := by
    simp only [List.length_map]
    unfold mn
    repeat' split
    all_goals omega
  rw [e]
  generalize hn : min (min a.length b.length) c.length = n
  by_cases h : (n : Int) > 1000
  · simp only [if_pos h]
    exact Ev.bind (a := true) ⟨20, fun k hk => works_f k hk⟩ (Ev.now _)
  · have h1 : (0 : Int) ≤ (n : Int) := by omega
    have h2 : n ≤ 281474976710656 := by omega
    simp only [if_neg h, if_pos h1, Int.toNat_natCast, if_pos h2]
    have hz : List.replicate n (0 : Int) = (List.replicate n (0#8)).map fun c => (c.toNat : Int) := by simp
    rw [hz]
    refine three_l0 a b c n (by omega) (by omega) (by omega) (by omega) n 0 (List.replicate n (0#8)) (by omega) (by simp) (fun p hp => ?_)
    rw [List.getElem?_replicate, if_pos hp, if_neg (by omega)]


end Go.Proofs.Ytnnhlladcmgmnaa.Pure
