/-
  The five laws of crc as contracts for CrcKnown's walk: with any arguments they answer true; '[]byte(s)'.
-/
import Derived.Test.YtnnhlladcmgmnaaPureCrcKnown
import Derived.Lib.ConvBytes
namespace Go.Proofs.Ytnnhlladcmgmnaa.Known
open Go.RowKit Go.Proofs.Ytnnhlladcmgmnaa.PCrcKnown Go.Proofs.YtnnhlladcmgmnaaW.PrintWords Go.Proofs.YtnnhlladcmgmnaaW.PrintLast Go.Proofs.YtnnhlladcmgmnaaW.PrintMore
set_option linter.unusedVariables false

/-- A string's bytes, as numbers. -/
def nums (s : ByteArray) : List Int := s.data.toList.map fun b => (b.toNat : Int)
theorem nums_length (s : ByteArray) : (nums s).length = s.size := by simp [nums]
theorem nums_wf (s : ByteArray) : ∀ x ∈ nums s, (Lit.int .u8 x).wf = true := by
  intro x hx
  obtain ⟨b, _, rfl⟩ := List.mem_map.1 hx
  have := b.toNat_lt
  simp [Lit.wf, IntKind.min, IntKind.max, IntKind.signed, IntKind.bits]
  omega

theorem bytes_below {w W : World} (h : Below w.heap.size w W) (s : ByteArray) : Below w.heap.size w (Lib.bytesWorld W 5 s) :=
  h.trans ⟨rfl, rfl, rfl, by rw [Lib.bytesWorld_size]; omega, fun k hk => Lib.bytesWorld_at_old W 5 s k (by have := h.size; omega)⟩

theorem bytes_row (W : World) (s : ByteArray) (hs : s.size ≤ 30) : Kd.C (Kd.int .u8) (Lib.bytesWorld W 5 s) (some ⟨W.heap.size, 0, none⟩) (nums s).length (nums s) := by
  refine ⟨rfl, by rw [nums_length]; omega, fun _ => ⟨_, rfl, fun j p hj => ⟨[.int .u8 p], rfl, rfl, fun i u hu => ?_⟩⟩⟩
  have hi : i = 0 := by
    rcases i with _ | i
    · rfl
    · simp at hu
  subst hi
  simp only [List.getElem?_cons_zero, Option.some.injEq] at hu
  subst hu
  have hlt : j < (nums s).length := by
    rcases Nat.lt_or_ge j (nums s).length with h | h
    · exact h
    · rw [List.getElem?_eq_none h] at hj; simp at hj
  have e : ((⟨W.heap.size, 0, none⟩ : Addr).add (j * (Kd.int .u8).sz + 0)) = ⟨W.heap.size, j, none⟩ := by
    show (⟨W.heap.size, 0, none⟩ : Addr).add (j * 1 + 0) = _
    unfold Addr.add
    split
    · congr 1; omega
    · congr 1; simp
  rw [e, Lib.bytesWorld_cell W 5 s j (by rw [nums_length] at hlt; exact hlt)]
  unfold nums at hj
  rw [List.getElem?_map] at hj
  simp only [List.getD]
  cases hq : s.data.toList[j]? with
  | none => rw [hq] at hj; simp at hj
  | some b => rw [hq] at hj; simp at hj; simp [← hj]

theorem turns (a0 a1 : Int) (h0 : (Lit.int .u32 a0).wf = true) (h1 : (Lit.int .u8 a1).wf = true) (w : World) :
    Calls Try.prog 3 #[.int .u32 a0, .int .u8 a1] w fun e w' => e = .returned (.bool true) ∧ Below w.heap.size w w' := by
  obtain ⟨k, h⟩ := PureKnown.CrcTurns a0 a1 h0 h1
  refine (tailracelaw01_CrcTurns.calls k a0 a1 true w h).mono ?_
  rintro e w' ⟨rfl, hd⟩
  exact ⟨rfl, hd⟩
theorem row_lt {s : ByteArray} (h : s.size ≤ 30) : (nums s).length ≤ maxLen ∧ (nums s).length * 1 ≤ 140737488351232 := by
  rw [nums_length]; constructor
  · have : (30:Nat) ≤ maxLen := by decide
    omega
  · omega
theorem line {A : Option Addr} {n c : Nat} {s : ByteArray} {w : World} (hr : Kd.C (Kd.int .u8) w A (nums s).length (nums s)) (hn : n = (nums s).length) (hc : n ≤ c) (hs : s.size ≤ 30) :
    Calls Try.prog 4 #[.slice A n c] w fun e w' => e = .returned (.bool true) ∧ Below w.heap.size w w' := by
  subst hn
  obtain ⟨k, h⟩ := PureKnown.CrcLine (nums s) (row_lt hs).1 (row_lt hs).2 (nums_wf s)
  refine (tailracelaw01_CrcLine.calls k A c (nums s) true w hr hc h).mono ?_
  rintro e w' ⟨rfl, hd⟩
  exact ⟨rfl, hd⟩
theorem self {A : Option Addr} {n c : Nat} {s : ByteArray} {w : World} (hr : Kd.C (Kd.int .u8) w A (nums s).length (nums s)) (hn : n = (nums s).length) (hc : n ≤ c) (hs : s.size ≤ 30) :
    Calls Try.prog 5 #[.slice A n c] w fun e w' => e = .returned (.bool true) ∧ Below w.heap.size w w' := by
  subst hn
  obtain ⟨k, h⟩ := PureKnown.CrcSelf (nums s) (row_lt hs).1 (row_lt hs).2 (nums_wf s)
  refine (tailracelaw01_CrcSelf.calls k A c (nums s) true w hr hc h).mono ?_
  rintro e w' ⟨rfl, hd⟩
  exact ⟨rfl, hd⟩
theorem bits {A : Option Addr} {n c : Nat} {s : ByteArray} {w : World} (a1 a2 a3 : Int) (h1 : (Lit.int .u16 a1).wf = true) (h2 : (Lit.int .u16 a2).wf = true) (h3 : (Lit.int .u16 a3).wf = true) (hr : Kd.C (Kd.int .u8) w A (nums s).length (nums s)) (hn : n = (nums s).length) (hc : n ≤ c) (hs : s.size ≤ 30) :
    Calls Try.prog 6 #[.slice A n c, .int .u16 a1, .int .u16 a2, .int .u16 a3] w fun e w' => e = .returned (.bool true) ∧ Below w.heap.size w w' := by
  subst hn
  obtain ⟨k, h⟩ := PureKnown.CrcBits (nums s) a1 a2 a3 (row_lt hs).1 (row_lt hs).2 (nums_wf s) h1 h2 h3
  refine (tailracelaw01_CrcBits.calls k A c (nums s) a1 a2 a3 true w hr hc h).mono ?_
  rintro e w' ⟨rfl, hd⟩
  exact ⟨rfl, hd⟩
theorem three {A B C : Option Addr} {n c m d p q : Nat} {s t u : ByteArray} {w : World}
    (hr : Kd.C (Kd.int .u8) w A (nums s).length (nums s)) (hn : n = (nums s).length) (hc : n ≤ c) (hs : s.size ≤ 30)
    (hr1 : Kd.C (Kd.int .u8) w B (nums t).length (nums t)) (hn1 : m = (nums t).length) (hc1 : m ≤ d) (hs1 : t.size ≤ 30)
    (hr2 : Kd.C (Kd.int .u8) w C (nums u).length (nums u)) (hn2 : p = (nums u).length) (hc2 : p ≤ q) (hs2 : u.size ≤ 30) :
    Calls Try.prog 7 #[.slice A n c, .slice B m d, .slice C p q] w fun e w' => e = .returned (.bool true) ∧ Below w.heap.size w w' := by
  subst hn hn1 hn2
  obtain ⟨k, h⟩ := PureKnown.CrcThree (nums s) (nums t) (nums u) (row_lt hs).1 (row_lt hs).2 (nums_wf s) (row_lt hs1).1 (row_lt hs1).2 (nums_wf t) (row_lt hs2).1 (row_lt hs2).2 (nums_wf u)
  refine (tailracelaw01_CrcThree.calls k A c (nums s) B d (nums t) C q (nums u) true w hr hc hr1 hc1 hr2 hc2 h).mono ?_
  rintro e w' ⟨rfl, hd⟩
  exact ⟨rfl, hd⟩

/-! the nine texts and their sums -/
def texts : List ByteArray := [⟨#[]⟩, ⟨#[97]⟩, ⟨#[97, 98, 99]⟩, ⟨#[109, 101, 115, 115, 97, 103, 101, 32, 100, 105, 103, 101, 115, 116]⟩, ⟨#[97, 98, 99, 100, 101, 102, 103, 104, 105, 106, 107, 108, 109, 110, 111, 112, 113, 114, 115, 116, 117, 118, 119, 120, 121, 122]⟩, ⟨#[49, 50, 51, 52, 53, 54, 55, 56, 57]⟩, ⟨#[0]⟩, ⟨#[0, 0, 0, 0]⟩, ⟨#[255, 255, 255, 255]⟩]
def sums : List Int := [0, 3904355907, 891568578, 538287487, 1277644989, 3421780262, 3523407757, 558161692, 4294967295]
def txt (i : Nat) : ByteArray := texts.getD i ⟨#[]⟩
def sm (i : Nat) : Int := sums.getD i 0
theorem txt_size (i : Nat) : (txt i).size ≤ 30 := by
  rcases Nat.lt_or_ge i 9 with h | h
  · have : ∀ j : Fin 9, (txt j).size ≤ 30 := by decide +kernel
    exact this ⟨i, h⟩
  · unfold txt
    rw [List.getD, List.getElem?_eq_none (show texts.length ≤ i from h)]
    decide
theorem sum_txt (i : Nat) (h : i < 9) : crc_Sum.f 60 (nums (txt i)) = some (sm i) := by
  have : ∀ j : Fin 9, crc_Sum.f 60 (nums (txt j)) = some (sm j) := by decide +kernel
  exact this ⟨i, h⟩
theorem sum {A : Option Addr} {n c : Nat} {i : Nat} {w : World} (hi : i < 9) (hr : Kd.C (Kd.int .u8) w A (nums (txt i)).length (nums (txt i))) (hn : n = (nums (txt i)).length) (hc : n ≤ c) :
    Calls Try.prog 12 #[.slice A n c] w fun e w' => e = .returned (.int .u32 (sm i)) ∧ Below w.heap.size w w' := by
  subst hn
  refine (crc_Sum.calls 60 A c (nums (txt i)) (sm i) w hr hc (sum_txt i hi)).mono ?_
  rintro e w' ⟨rfl, ⟨nd, rfl⟩⟩
  exact ⟨rfl, pw_below_drewN (Below.refl _ _) nd⟩
theorem step_last (w : World) : Calls Try.prog 9 #[.int .u32 4294967295, .int .u8 0] w fun e w' => e = .returned (.int .u32 771559538) ∧ Below w.heap.size w w' := by
  refine (crc_Step.calls 20 4294967295 0 771559538 w (by decide +kernel)).mono ?_
  rintro e w' ⟨rfl, ⟨nd, rfl⟩⟩
  exact ⟨rfl, pw_below_drewN (Below.refl _ _) nd⟩
end Go.Proofs.Ytnnhlladcmgmnaa.Known
