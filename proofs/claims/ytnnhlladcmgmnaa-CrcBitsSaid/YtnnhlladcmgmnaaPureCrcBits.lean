/-
  A row of 1 to 1000 bytes in which one bit or three are turned (three places are named; those that are named twice are not turned) has another Sum; for other lengths nothing is asked but the known examples.
-/
import Derived.Test.YtnnhlladcmgmnaaPCrcBitsx2
import Derived.Test.YtnnhlladcmgmnaaMathBits
namespace Go.Proofs.Ytnnhlladcmgmnaa.Pure
open Go.RowKit Go.Proofs.Ytnnhlladcmgmnaa.PCrcBits Go.Proofs.YtnnhlladcmgmnaaW.PrintWords Go.Proofs.YtnnhlladcmgmnaaW.PrintLast Go.Proofs.YtnnhlladcmgmnaaW.PrintMore
set_option linter.unusedVariables false
/-! what the printed functions of crc come to, in the words of Math -/
theorem wrap_small {k : IntKind} (hk : k.signed = false) {n : Int} (h0 : 0 ≤ n) (h : n < 2 ^ k.bits) : k.wrap n = n := by
  cases k <;> simp_all [IntKind.wrap, IntKind.signed, IntKind.bits] <;> omega
theorem xor32 (a b : BitVec 32) : Go.bits .xor .u32 (a.toNat : Int) (b.toNat : Int) = ((a ^^^ b).toNat : Int) := by
  have ha : BitVec.ofInt 32 (a.toNat : Int) = a := by apply BitVec.eq_of_toNat_eq; simp
  have hb : BitVec.ofInt 32 (b.toNat : Int) = b := by apply BitVec.eq_of_toNat_eq; simp
  show IntKind.u32.wrap (((BitVec.ofInt 32 (a.toNat : Int)) ^^^ (BitVec.ofInt 32 (b.toNat : Int))).toNat : Int) = _
  rw [ha, hb]
  exact wrap_small rfl (by omega) (by have := (a ^^^ b).isLt; show _ < (2:Int) ^ 32; omega)
theorem not32 (a : BitVec 32) : Go.bits .xor .u32 IntKind.u32.max (a.toNat : Int) = ((~~~a).toNat : Int) := by
  have e : (IntKind.u32.max : Int) = ((BitVec.allOnes 32).toNat : Int) := by decide
  rw [e, xor32]
  rw [BitVec.allOnes_xor]
theorem wrap1 {i : Int} (h0 : 0 ≤ i) (h : i < 1000000) : wrap64 (i + 1) = i + 1 := by unfold wrap64; omega

theorem worn_tab (n : Nat) (hn : n < 16) : crc_worn.f 5 (n : Int) = some ((Math.fourTab.getD n 0 : Nat) : Int) := by
  have h : ∀ m : Fin 16, crc_worn.f 5 ((m.1 : Nat) : Int) = some ((Math.fourTab.getD m.1 0 : Nat) : Int) := by decide +kernel
  exact h ⟨n, hn⟩
theorem worn_four (x : BitVec 32) : crc_worn.f 5 (Int.tmod (x.toNat : Int) 16) = some ((Math.four x).toNat : Int) := by
  have e : Int.tmod (x.toNat : Int) 16 = ((x.toNat % 16 : Nat) : Int) := by
    rw [Int.tmod_eq_emod_of_nonneg (by omega)]; omega
  rw [e, worn_tab _ (Nat.mod_lt _ (by omega)), Math.four_tab]
theorem step_l0 (k : Nat) (hk : 8 ≤ k) (x : BitVec 32) : crc_Step.l0 k (x.toNat : Int) 0 = some ((Math.BN 8 x).toNat : Int) := by
  have one : ∀ (j : Nat) (hj : 5 ≤ j) (y : BitVec 32) (i : Int), i < 2 → crc_Step.l0 (j + 1) (y.toNat : Int) i = crc_Step.l0 j ((Math.BN 4 y).toNat : Int) (wrap64 (i + 1)) := by
    intro j hj y i hi
    simp only [crc_Step.l0]
    rw [if_pos hi, at_rounds (fun k => crc_worn.mono _ k) hj (worn_four y)]
    simp only [Option.bind_some]
    have e : (y.toNat : Int) / (16 : Int) = ((y >>> 4).toNat : Int) := by
      rw [BitVec.toNat_ushiftRight, Nat.shiftRight_eq_div_pow]; omega
    rw [e, xor32, Math.BN4]
  obtain ⟨k, rfl⟩ : ∃ m, k = m + 3 := ⟨k - 3, by omega⟩
  rw [one (k + 2) (by omega) x 0 (by omega), show wrap64 (0 + 1) = 1 from by decide +kernel, one (k + 1) (by omega) _ 1 (by omega), show wrap64 (1 + 1) = 2 from by decide +kernel]
  simp only [crc_Step.l0]
  rw [if_neg (by omega), ← Math.BN8]
theorem step_f (k : Nat) (hk : 8 ≤ k) (r : BitVec 32) (c : BitVec 8) : crc_Step.f k (r.toNat : Int) (c.toNat : Int) = some ((Math.stepB r c).toNat : Int) := by
  unfold crc_Step.f
  have e : ((c.toNat : Int) % 4294967296) = ((c.setWidth 32).toNat : Int) := by
    rw [BitVec.toNat_setWidth]; have := c.isLt; omega
  rw [e, xor32, step_l0 k hk]
  rfl
theorem sum_l0 (l : List (BitVec 8)) (d : Nat) : ∀ (k j : Nat) (r : BitVec 32), l.length < 1000000 → j + d = l.length → d + 9 ≤ k →
    crc_Sum.l0 k (r.toNat : Int) (l.map fun c => (c.toNat : Int)) (l.length : Int) (j : Int) = some ((~~~(Math.row r (l.drop j))).toNat : Int) := by
  induction d with
  | zero =>
    intro k j r hl hj hk
    obtain ⟨k, rfl⟩ : ∃ m, k = m + 1 := ⟨k - 1, by omega⟩
    simp only [crc_Sum.l0]
    rw [if_neg (by omega), not32, List.drop_of_length_le (by omega)]
    rfl
  | succ d ih =>
    intro k j r hl hj hk
    obtain ⟨k, rfl⟩ : ∃ m, k = m + 1 := ⟨k - 1, by omega⟩
    have hlt : j < l.length := by omega
    have hrd : rd (l.map fun c => (c.toNat : Int)) (j : Int) = ((l[j].toNat : Nat) : Int) := by
      unfold rd
      rw [Int.toNat_natCast, List.getD_eq_getElem?_getD, List.getElem?_map, List.getElem?_eq_getElem hlt]
      rfl
    simp only [crc_Sum.l0]
    rw [if_pos (by omega), if_pos (by omega), if_pos (by rw [List.length_map]; omega), hrd, step_f k (by omega)]
    simp only [Option.bind_some]
    rw [wrap1 (by omega) (by omega), show ((j : Int) + 1) = ((j + 1 : Nat) : Int) from rfl, ih k (j + 1) _ hl (by omega) (by omega)]
    rw [List.drop_eq_getElem_cons hlt]
    rfl
theorem sum_f (l : List (BitVec 8)) (hl : l.length < 1000000) (k : Nat) (hk : l.length + 9 ≤ k) :
    crc_Sum.f k (l.map fun c => (c.toNat : Int)) = some ((~~~(Math.row (BitVec.allOnes 32) l)).toNat : Int) := by
  unfold crc_Sum.f
  have h := sum_l0 l l.length k 0 (BitVec.allOnes 32) hl (by omega) hk
  rw [List.drop_zero] at h
  rw [List.length_map]
  exact h
theorem works_f (k : Nat) (hk : 20 ≤ k) : tailracelaw01_works.f k = some true := at_rounds tailracelaw01_works.mono hk works_true
/-- Bytes of the argument, as bytes. -/
theorem bytes_of (l : List Int) (h : ∀ x ∈ l, (Lit.int .u8 x).wf = true) : ∃ b : List (BitVec 8), l = b.map fun c => (c.toNat : Int) := by
  induction l with
  | nil => exact ⟨[], rfl⟩
  | cons x l ih =>
    obtain ⟨b, rfl⟩ := ih (fun y hy => h y (List.mem_cons_of_mem _ hy))
    have hx : 0 ≤ x ∧ x ≤ 255 := by have := h x (List.mem_cons_self ..); simpa [Lit.wf, IntKind.min, IntKind.max, IntKind.signed, IntKind.bits] using this
    refine ⟨BitVec.ofNat 8 x.toNat :: b, ?_⟩
    rw [List.map_cons]
    congr 1
    rw [BitVec.toNat_ofNat]
    omega

theorem xor8 (a b : BitVec 8) : Go.bits .xor .u8 (a.toNat : Int) (b.toNat : Int) = ((a ^^^ b).toNat : Int) := by
  have ha : BitVec.ofInt 8 (a.toNat : Int) = a := by apply BitVec.eq_of_toNat_eq; simp
  have hb : BitVec.ofInt 8 (b.toNat : Int) = b := by apply BitVec.eq_of_toNat_eq; simp
  show IntKind.u8.wrap (((BitVec.ofInt 8 (a.toNat : Int)) ^^^ (BitVec.ofInt 8 (b.toNat : Int))).toNat : Int) = _
  rw [ha, hb]
  exact wrap_small rfl (by omega) (by have := (a ^^^ b).isLt; show _ < (2:Int) ^ 8; omega)
theorem rd_bytes (b : List (BitVec 8)) (j : Nat) (hlt : j < b.length) : rd (b.map fun c => (c.toNat : Int)) (j : Int) = ((b.getD j 0#8).toNat : Int) := by
  unfold rd
  rw [Int.toNat_natCast, List.getD_eq_getElem?_getD, List.getElem?_map, List.getElem?_eq_getElem hlt, List.getD_eq_getElem?_getD, List.getElem?_eq_getElem hlt]
  rfl
theorem shl8 (j : Nat) (hj : j < 8) : shl .u8 1 (j : Int) = ((1#8 <<< j).toNat : Int) := by
  have h : ∀ i : Fin 8, shl .u8 1 ((i.1 : Nat) : Int) = ((1#8 <<< i.1).toNat : Int) := by decide +kernel
  exact h ⟨j, hj⟩
theorem nums_inj (a b : List (BitVec 8)) (h : (strOfNums (a.map fun c => (c.toNat : Int))).toList = (strOfNums (b.map fun c => (c.toNat : Int))).toList) : a = b := by
  have e : ∀ l : List (BitVec 8), (strOfNums (l.map fun c => (c.toNat : Int))).data.toList = l.map fun c => UInt8.ofNat c.toNat := by
    intro l
    unfold strOfNums
    simp
  have h' : (strOfNums (a.map fun c => (c.toNat : Int))).data.toList = (strOfNums (b.map fun c => (c.toNat : Int))).data.toList := by
    have t : ∀ s : ByteArray, s.toList = s.data.toList := fun s => ByteArray.toList_eq s
    rw [← t, ← t]; exact h
  rw [e, e] at h'
  have hinj : ∀ x y : BitVec 8, UInt8.ofNat x.toNat = UInt8.ofNat y.toNat → x = y := by
    intro x y hxy
    have := congrArg UInt8.toNat hxy
    simp only [UInt8.toNat_ofNat'] at this
    apply BitVec.eq_of_toNat_eq
    have hx := x.isLt; have hy := y.isLt
    omega
  exact List.map_inj_right hinj |>.1 h'
/-- One turn of a bit. -/
theorem turn_l0 (b x : List (BitVec 8)) (ns : List Int) (L : Nat) (hb : b.length = L) (hx : x.length = L) (h1 : 1 ≤ L) (hL : L ≤ 1000) (hns : ns.length = 3) (i : Nat) (hi : i < 3) (n : Nat) (hn : ns.getD i 0 = (n : Int)) (hn' : n < 65536) (k : Nat) :
    tailracelaw01_CrcBits.l0 (k + 1) (b.map fun c => (c.toNat : Int)) (x.map fun c => (c.toNat : Int)) ns 3 (i : Int) =
    tailracelaw01_CrcBits.l0 k (b.map fun c => (c.toNat : Int)) ((Math.flip x (n % (8 * L))).map fun c => (c.toNat : Int)) ns 3 ((i + 1 : Nat) : Int) := by
  have hix : wrap64 ((i : Int) + 1) = ((i + 1 : Nat) : Int) := by rw [wrap1 (by omega) (by omega)]; rfl
  have hrd : rd ns (i : Int) = (n : Int) := by unfold rd; rw [Int.toNat_natCast]; exact hn
  have hw : wrap64 (n : Int) = (n : Int) := by unfold wrap64; omega
  have h8 : wrap64 (8 * ((b.map fun c => (c.toNat : Int)).length : Int)) = ((8 * L : Nat) : Int) := by rw [List.length_map, hb]; unfold wrap64; omega
  have hm : Int.tmod (n : Int) ((8 * L : Nat) : Int) = ((n % (8 * L) : Nat) : Int) := by
    rw [Int.tmod_eq_emod_of_nonneg (by omega)]; rfl
  generalize hp : n % (8 * L) = p at hm
  have hpl : p < 8 * L := by rw [← hp]; exact Nat.mod_lt _ (by omega)
  have hd : wrap64 (Int.tdiv (p : Int) 8) = ((p / 8 : Nat) : Int) := by
    rw [Int.tdiv_eq_ediv_of_nonneg (by omega)]; unfold wrap64; omega
  have hj : Int.tmod (p : Int) 8 = ((p % 8 : Nat) : Int) := by
    rw [Int.tmod_eq_emod_of_nonneg (by omega)]; rfl
  have hq : p / 8 < x.length := by omega
  have hset : ((x.map fun c => (c.toNat : Int)).set (p / 8) ((x.getD (p / 8) 0#8 ^^^ 1#8 <<< (p % 8)).toNat : Int)) = (Math.flip x p).map fun c => (c.toNat : Int) := by
    unfold Math.flip; rw [List.map_set]
  simp only [tailracelaw01_CrcBits.l0]
  rw [if_pos (by omega), if_pos (by omega), if_pos (by rw [hns]; omega), hrd, hw, h8, if_neg (by omega), hm, hd, hj, if_pos (by omega), if_pos (by rw [List.length_map]; omega), if_pos (by omega), Int.toNat_natCast,
    rd_bytes x _ hq, shl8 _ (Nat.mod_lt _ (by omega)), xor8, hix, hset]
theorem CrcBits : tailracelaw01_CrcBits.Pure := by
  intro l0 a1 a2 a3 hm hb hw w1 w2 w3
  obtain ⟨b, rfl⟩ := bytes_of l0 hw
  have r1 : 0 ≤ a1 ∧ a1 ≤ 65535 := by simpa [Lit.wf, IntKind.min, IntKind.max, IntKind.signed, IntKind.bits] using w1
  have r2 : 0 ≤ a2 ∧ a2 ≤ 65535 := by simpa [Lit.wf, IntKind.min, IntKind.max, IntKind.signed, IntKind.bits] using w2
  have r3 : 0 ≤ a3 ∧ a3 ≤ 65535 := by simpa [Lit.wf, IntKind.min, IntKind.max, IntKind.signed, IntKind.bits] using w3
  obtain ⟨n1, rfl⟩ := Int.eq_ofNat_of_zero_le r1.1
  obtain ⟨n2, rfl⟩ := Int.eq_ofNat_of_zero_le r2.1
  obtain ⟨n3, rfl⟩ := Int.eq_ofNat_of_zero_le r3.1
  refine Ev.rounds ?_
  unfold tailracelaw01_CrcBits.f
  by_cases h0 : ((b.map fun c => (c.toNat : Int)).length : Int) = 0
  · simp only [if_pos h0]
    refine Ev.step (f := fun k => (tailracelaw01_works.f k).bind fun t110 => some t110) (fun k => ?_) (Ev.bind (a := true) ⟨20, fun k hk => works_f k hk⟩ (Ev.now _))
    simp only [tailracelaw01_CrcBits.j0, if_true]
  · simp only [if_neg h0]
    by_cases h : ((b.map fun c => (c.toNat : Int)).length : Int) > 1000
    · simp only [decide_eq_true h]
      refine Ev.step (f := fun k => (tailracelaw01_works.f k).bind fun t110 => some t110) (fun k => ?_) (Ev.bind (a := true) ⟨20, fun k hk => works_f k hk⟩ (Ev.now _))
      simp only [tailracelaw01_CrcBits.j0, if_true]
    · rw [List.length_map] at h h0
      have hd : decide (((b.map fun c => (c.toNat : Int)).length : Int) > 1000) = false := by rw [List.length_map]; exact decide_eq_false h
      rw [hd]
      generalize hL : b.length = L
      have hx1 : (Math.flip b (n1 % (8 * L))).length = L := by rw [Math.flip_length, hL]
      have hx2 : (Math.flip (Math.flip b (n1 % (8 * L))) (n2 % (8 * L))).length = L := by rw [Math.flip_length, hx1]
      have hx3 : (Math.flip (Math.flip (Math.flip b (n1 % (8 * L))) (n2 % (8 * L))) (n3 % (8 * L))).length = L := by rw [Math.flip_length, hx2]
      have hf := Math.flips b (n1 % (8 * L)) (n2 % (8 * L)) (n3 % (8 * L)) (by omega) (by rw [hL]; exact Nat.mod_lt _ (by omega)) (by rw [hL]; exact Nat.mod_lt _ (by omega)) (by rw [hL]; exact Nat.mod_lt _ (by omega)) (BitVec.allOnes 32)
      refine Ev.step (f := fun k => tailracelaw01_CrcBits.l0 k (b.map fun c => (c.toNat : Int)) (b.map fun c => (c.toNat : Int)) [(n1 : Int), (n2 : Int), (n3 : Int)] 3 ((0 : Nat) : Int)) (fun k => ?_) ?_
      · have hlt : 0 + (b.map fun c => (c.toNat : Int)).length < 140737488355328 := by rw [List.length_map]; omega
        simp only [tailracelaw01_CrcBits.j0]
        rw [if_neg (by simp)]
        simp only [Option.bind_some, if_pos hlt, List.nil_append, List.length_cons, List.length_nil]
        rfl
      · refine Ev.step (fun k => turn_l0 b b [(n1 : Int), (n2 : Int), (n3 : Int)] L hL hL (by omega) (by omega) rfl 0 (by omega) n1 rfl (by omega) k) ?_
        refine Ev.step (fun k => turn_l0 b (Math.flip b (n1 % (8 * L))) [(n1 : Int), (n2 : Int), (n3 : Int)] L hL hx1 (by omega) (by omega) rfl 1 (by omega) n2 rfl (by omega) k) ?_
        refine Ev.step (fun k => turn_l0 b (Math.flip (Math.flip b (n1 % (8 * L))) (n2 % (8 * L))) [(n1 : Int), (n2 : Int), (n3 : Int)] L hL hx2 (by omega) (by omega) rfl 2 (by omega) n3 rfl (by omega) k) ?_
        generalize Math.flip (Math.flip (Math.flip b (n1 % (8 * L))) (n2 % (8 * L))) (n3 % (8 * L)) = x at hf hx3
        refine Ev.step (f := fun k => (crc_Sum.f k (x.map fun c => (c.toNat : Int))).bind fun t123 => (crc_Sum.f k (b.map fun c => (c.toNat : Int))).bind fun t124 => (if ((t123 == t124) == ((strOfNums (x.map fun c => (c.toNat : Int))).toList == (strOfNums (b.map fun c => (c.toNat : Int))).toList)) = true then ((tailracelaw01_works.f k).bind fun t125 => (some t125)) else (some false)))
          (fun k => ?_) (Ev.bind (a := ((~~~(Math.row (BitVec.allOnes 32) x)).toNat : Int)) ⟨x.length + 9, fun k hk => sum_f x (by omega) k hk⟩ (Ev.bind (a := ((~~~(Math.row (BitVec.allOnes 32) b)).toNat : Int)) ⟨b.length + 9, fun k hk => sum_f b (by omega) k hk⟩ ?_))
        · simp only [tailracelaw01_CrcBits.l0]
          rw [if_neg (by omega)]
        · have e1 : ((((~~~(Math.row (BitVec.allOnes 32) x)).toNat : Int)) == ((~~~(Math.row (BitVec.allOnes 32) b)).toNat : Int)) = false := by
            rw [beq_eq_false_iff_ne]
            intro e
            apply hf
            have e' : ~~~(Math.row (BitVec.allOnes 32) x) = ~~~(Math.row (BitVec.allOnes 32) b) := BitVec.eq_of_toNat_eq (by omega)
            have := congrArg (fun z => ~~~z) e'
            simpa using this
          have e2 : ((strOfNums (x.map fun c => (c.toNat : Int))).toList == (strOfNums (b.map fun c => (c.toNat : Int))).toList) = false := by
            rw [beq_eq_false_iff_ne]
            intro e
            apply hf
            rw [nums_inj x b e]
          simp only [e1, e2, beq_self_eq_true, if_true]
          exact Ev.bind (a := true) ⟨20, fun k hk => works_f k hk⟩ (Ev.now _)


end Go.Proofs.Ytnnhlladcmgmnaa.Pure
