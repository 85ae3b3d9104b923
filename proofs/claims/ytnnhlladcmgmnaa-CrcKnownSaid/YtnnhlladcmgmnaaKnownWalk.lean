/-
  CrcKnown, walked: with the laws as contracts.
-/
import Derived.Test.YtnnhlladcmgmnaaKnownCalls
import Derived.OrdersHeld
import Derived.Laws.AppendOwn
import Derived.Test.YtnnhlladcmgmnaaWTab
namespace Go.Proofs.Ytnnhlladcmgmnaa.Known
open Go.RowKit Go.Proofs.Ytnnhlladcmgmnaa.PCrcKnown Go.Proofs.YtnnhlladcmgmnaaW.PrintWords Go.Proofs.YtnnhlladcmgmnaaW.PrintLast Go.Proofs.YtnnhlladcmgmnaaW.PrintMore
set_option linter.unusedVariables false
set_option linter.unusedSimpArgs false
theorem wf_u8 (n : Int) : (Lit.int .u8 (n % 256)).wf = true := by
  simp [Lit.wf, IntKind.min, IntKind.max, IntKind.signed, IntKind.bits]; omega
theorem wf_u32 (n : Int) : (Lit.int .u32 (n % 4294967296)).wf = true := by
  simp [Lit.wf, IntKind.min, IntKind.max, IntKind.signed, IntKind.bits]; omega
theorem wf_wrap (k : IntKind) (hk : k = .u8 ∨ k = .u16 ∨ k = .u32) (n : Int) : (Lit.int k (k.wrap n)).wf = true := by
  rcases hk with rfl | rfl | rfl <;> simp [Lit.wf, IntKind.wrap, IntKind.min, IntKind.max, IntKind.signed, IntKind.bits] <;> omega
/-! the two tables -/
def textsObj : Obj := .cells #[.string ⟨#[]⟩, .string ⟨#[97]⟩, .string ⟨#[97, 98, 99]⟩, .string ⟨#[109, 101, 115, 115, 97, 103, 101, 32, 100, 105, 103, 101, 115, 116]⟩, .string ⟨#[97, 98, 99, 100, 101, 102, 103, 104, 105, 106, 107, 108, 109, 110, 111, 112, 113, 114, 115, 116, 117, 118, 119, 120, 121, 122]⟩, .string ⟨#[49, 50, 51, 52, 53, 54, 55, 56, 57]⟩, .string ⟨#[0]⟩, .string ⟨#[0, 0, 0, 0]⟩, .string ⟨#[255, 255, 255, 255]⟩] 9
def sumsObj : Obj := .cells #[.int .u32 0, .int .u32 3904355907, .int .u32 891568578, .int .u32 538287487, .int .u32 1277644989, .int .u32 3421780262, .int .u32 3523407757, .int .u32 558161692, .int .u32 4294967295] 22
structure Tab (n m : Nat) (w : World) : Prop where
  ln : n < w.heap.size
  lm : m < w.heap.size
  texts : w.heap[n]? = some textsObj
  sums : w.heap[m]? = some sumsObj
theorem Tab.below {n m : Nat} {w w' : World} (h : Tab n m w) (k : Below w.heap.size w w') : Tab n m w' :=
  ⟨Nat.lt_of_lt_of_le h.ln k.size, Nat.lt_of_lt_of_le h.lm k.size, (k.block n h.ln).trans h.texts, (k.block m h.lm).trans h.sums⟩
theorem Tab.start (w : World) : Tab w.heap.size (w.heap.size + 1) ((w.alloc textsObj).alloc sumsObj) := by
  refine ⟨by show _ < ((w.heap.push _).push _).size; simp only [Array.size_push]; omega, by show _ < ((w.heap.push _).push _).size; simp only [Array.size_push]; omega, ?_, ?_⟩
  · show ((w.heap.push _).push _)[w.heap.size]? = _
    simp [Array.getElem?_push]
  · show ((w.heap.push _).push _)[w.heap.size + 1]? = _
    rw [Array.getElem?_push, if_pos (by simp only [Array.size_push])]
theorem Tab.text {n m : Nat} {w : World} (h : Tab n m w) (i : Nat) (hi : i < 9) : w.cell? ⟨n, i, none⟩ = some (.string (txt i)) := by
  unfold World.cell?
  simp only [h.texts, textsObj]
  rcases (by omega : i = 0 ∨ i = 1 ∨ i = 2 ∨ i = 3 ∨ i = 4 ∨ i = 5 ∨ i = 6 ∨ i = 7 ∨ i = 8) with h | h | h | h | h | h | h | h | h <;> subst h <;> rfl
theorem Tab.sum {n m : Nat} {w : World} (h : Tab n m w) (i : Nat) (hi : i < 9) : w.cell? ⟨m, i, none⟩ = some (.int .u32 (sm i)) := by
  unfold World.cell?
  simp only [h.sums, sumsObj]
  rcases (by omega : i = 0 ∨ i = 1 ∨ i = 2 ∨ i = 3 ∨ i = 4 ∨ i = 5 ∨ i = 6 ∨ i = 7 ∨ i = 8) with h | h | h | h | h | h | h | h | h <;> subst h <;> rfl
/-- What holds while the round's bytes stand: the tables, the row, and that nothing older has turned. -/
structure Hd (w0 : World) (n m b : Nat) (s : ByteArray) (w : World) : Prop where
  tab : Tab n m w
  row : Kd.C (Kd.int .u8) w (some ⟨b, 0, none⟩) (nums s).length (nums s)
  below0 : Below w0.heap.size w0 w
theorem Hd.below {w0 : World} {n m b : Nat} {s : ByteArray} {w w' : World} (h : Hd w0 n m b s w) (k : Below w.heap.size w w') : Hd w0 n m b s w' := ⟨h.tab.below k, Kd.C_below h.row k, below_step h.below0 k⟩
theorem Hd.drew {w0 : World} {n m b : Nat} {s : ByteArray} {w : World} (h : Hd w0 n m b s w) : Hd w0 n m b s w.drew := h.below (below_drew1 (Below.refl _ _))
theorem Hd.bytes {w0 : World} {n m b : Nat} {s : ByteArray} {w : World} (h : Hd w0 n m b s w) (t : ByteArray) : Hd w0 n m b s (Lib.bytesWorld w 5 t) := h.below (bytes_below (Below.refl _ _) t)
theorem Hd.start {w0 : World} {n m : Nat} {w : World} (h : Tab n m w) (k : Below w0.heap.size w0 w) (s : ByteArray) (hs : s.size ≤ 30) : Hd w0 n m w.heap.size s (Lib.bytesWorld w 5 s) :=
  ⟨h.below (bytes_below (Below.refl _ _) s), bytes_row w s hs, bytes_below k s⟩
theorem Lib_cap (w : World) (s : ByteArray) : s.size ≤ grownCap w s.size 0 5 := grownCap_ge _ _ _ _
theorem wf_u16 (n : Int) : (Lit.int .u16 (n % 65536)).wf = true := by
  simp [Lit.wf, IntKind.min, IntKind.max, IntKind.signed, IntKind.bits]; omega
theorem wf_z {z : Nat} (h : z ≤ 40) : (Lit.int .u16 (z : Int)).wf = true := by
  simp [Lit.wf, IntKind.min, IntKind.max, IntKind.signed, IntKind.bits]; omega
/-! region 15: what waits for what -/
def T15 : Bool × List (List Nat × List Nat) := (true, [([], []), ([0], [0]), ([], []), ([], []), ([2, 3], [2, 3]), ([4], [4]), ([1, 5], [1, 5]), ([6, 1], [6]), ([7], [7]), ([8, 7, 7], [7, 8]), ([9, 7], [7, 9]), ([7, 10], [7, 10]), ([11, 9], [11]), ([12], [12]), ([13, 12, 12], [12, 13]), ([14, 12], [12, 14]), ([12, 15], [12, 15]), ([16, 14], [16]), ([17], [17]), ([17], [17]), ([17], [17]), ([20, 17], [17, 20]), ([21, 17], [17, 21]), ([19, 22, 17], [17, 19, 22]), ([23, 17], [17, 23]), ([24, 17], [17, 24]), ([17], [17]), ([17], [17]), ([27, 17], [17, 27]), ([28, 17], [17, 28]), ([29, 17], [17, 29]), ([26, 30, 17], [17, 26, 30]), ([31, 17], [17, 31]), ([32, 17], [17, 32]), ([18, 25, 33, 17, 17], [17, 18, 25, 33]), ([34, 17], [17, 34]), ([17, 35], [17, 35])])
def B15 : List Nat := [0, 1, 0, 0, 12, 28, 63, 127, 255, 511, 1023, 2047, 4095, 8191, 16383, 32767, 65535, 131071, 262143, 262143, 262143, 1310719, 3407871, 8126463, 16515071, 33292287, 262143, 262143, 134479871, 402915327, 939786239, 2080636927, 4228120575, 8523087871, 17179869183, 34359738367, 68719476735]
theorem tab15 : rtab .any (opsOf Try.f8 15) = T15 := by kernel_rfl
theorem bits15 : waitsOk T15.2 B15 = true := by kernel_rfl
set_option maxHeartbeats 8000000 in
set_option maxRecDepth 100000 in
theorem known (w : World) : Calls Try.prog 8 #[] w fun e w' => e = .returned (.bool true) ∧ Below w.heap.size w w' := by
  have HB := Aside0.mk (Below.refl w.heap.size w)
  go_enter Try.func8, Try.ntmps8
  go_wp2_with fail
  go_loopg [1] 32 (fun kq v1 w' => ∃ (i : Nat), v1 = .int .i64 (i : Int) ∧ Aside0 (i ≤ 32) ∧ Aside0 (kq = 32 - i) ∧ Aside0 (Below w.heap.size w w'))
  case atStart => exact ⟨0, rfl, ⟨by omega⟩, ⟨by omega⟩, ⟨by repeat (first | (with_reducible first | exact HB.out | apply below_alloc | apply pw_below_drewN | apply below_drew1) | exact HB.out)⟩⟩
  case round =>
    clear HB
    obtain ⟨i, rfl, HI, HK, HB⟩ := hrel
    by_cases c : (i : Int) < 32
    · have cb : decide ((i : Int) < 32) = true := decide_eq_true c
      have C := Aside0.mk c
      clear c
      go_wp2_with fail
      go_loopg [2] 260 (fun kq v2 w' => ∃ (j : Nat), v2 = .int .i64 (j : Int) ∧ Aside0 (j ≤ 260) ∧ Aside0 (kq = 260 - j) ∧ Aside0 (Below w.heap.size w w'))
      case atStart => exact ⟨0, rfl, ⟨by omega⟩, ⟨by omega⟩, ⟨by repeat (first | (with_reducible first | exact HB.out | apply below_alloc | apply pw_below_drewN | apply below_drew1) | exact HB.out)⟩⟩
      case round =>
        clear HB
        obtain ⟨j, rfl, HJ, HL, HB⟩ := hrel
        by_cases c2 : (j : Int) < 256
        · have cb2 : decide ((j : Int) < 256) = true := decide_eq_true c2
          have C2 := Aside0.mk c2
          clear c2
          go_wp2_with fail
          refine (turns _ _ (wf_u32 _) (wf_u8 _) _).mono ?_
          rintro e w1 ⟨rfl, hd⟩
          have n0_ := Aside0.mk (below_step HB.out hd)
          clear HB hd
          have HB := n0_
          clear n0_
          go_wp2_with fail
          refine (turns _ _ (wf_wrap .u32 (.inr (.inr rfl)) _) (wf_u8 _) _).mono ?_
          rintro e w2 ⟨rfl, hd⟩
          have n0_ := Aside0.mk (below_step HB.out hd)
          clear HB hd
          have HB := n0_
          clear n0_
          go_wp2_with fail
          have e5 : wrap64 ((j : Int) + 5) = ((j + 5 : Nat) : Int) := by have := HJ.out; unfold wrap64; omega
          go_roundg (255 - j)
          case measure => have := HL.out; have := C2.out; omega
          case rel => exact ⟨j + 5, (by first | rfl | (simp [e5]; done) | (rw [i64_w, e5])), ⟨by have := C2.out; omega⟩, ⟨by omega⟩, HB⟩
        · have cb2 : decide ((j : Int) < 256) = false := decide_eq_false c2
          clear c2
          go_wp2_with fail
          have e1 : wrap64 ((i : Int) + 1) = ((i + 1 : Nat) : Int) := by have := HI.out; unfold wrap64; omega
          go_roundg (31 - i)
          case measure => have := HK.out; have := C.out; omega
          case rel => exact ⟨i + 1, (by first | rfl | (simp [e1]; done) | (rw [i64_w, e1])), ⟨by have := C.out; omega⟩, ⟨by omega⟩, HB⟩
    · have cb : decide ((i : Int) < 32) = false := decide_eq_false c
      clear c
      go_wp2_with fail
      have HT := Aside0.mk (Tab.start wr)
      have n0_ := Aside0.mk (show Below w.heap.size w ((wr.alloc textsObj).alloc sumsObj) from below_alloc (below_alloc HB.out _) _)
      clear HB HI HK
      have HB := n0_
      clear n0_
      unfold textsObj sumsObj at HT HB
      generalize hn : wr.heap.size = n at *
      generalize hm : n + 1 = m at *
      generalize ((wr.alloc _).alloc _) = wt at *
      clear hn hm
      go_loopg [5] 9 (fun kq v5 w' => ∃ (q : Nat), v5 = .int .i64 (q : Int) ∧ Aside0 (q ≤ 9) ∧ Aside0 (kq = 9 - q) ∧ Aside0 (Tab n m w') ∧ Aside0 (Below w.heap.size w w'))
      case atStart => exact ⟨0, rfl, ⟨by omega⟩, ⟨by omega⟩, HT, HB⟩
      case round =>
        clear HB HT
        obtain ⟨q, rfl, HQ, HK, HT, HB⟩ := hrel
        by_cases c3 : (q : Int) < 9
        · have cb : decide ((q : Int) < 9) = true := decide_eq_true c3
          have C := Aside0.mk c3
          clear c3
          have kc := fun (w : World) (s : ByteArray) => Lib.run_convert_string_bytes (P := Try.prog) w 9 26 5 s Try.underlying9 Try.underlying26 Try.underlying5
          have hq0 : (0 ≤ (q : Int)) = True := eq_true (by omega)
          have hq9 : ((q : Int) < 9) = True := eq_true C.out
          have hx := HT.out.text q (by have := C.out; omega)
          go_wp2_with fail
          have HH := Aside0.mk (Hd.start HT.out HB.out (txt q) (txt_size q))
          have HC := Aside0.mk (Lib_cap wr (txt q))
          clear hx kc HT HB
          have kc := fun (w : World) (s : ByteArray) => Lib.run_convert_string_bytes (P := Try.prog) w 9 26 5 s Try.underlying9 Try.underlying26 Try.underlying5
          obtain ⟨t1, k1, ht1⟩ : ∃ t1 : Nat, Int.tmod (wrap64 ((q : Int) + 1)) 9 = (t1 : Int) ∧ t1 < 9 := ⟨(q + 1) % 9, by have := C.out; unfold wrap64; rw [Int.tmod_eq_emod_of_nonneg (by omega)]; omega, by omega⟩
          obtain ⟨t2, k2, ht2⟩ : ∃ t2 : Nat, Int.tmod (wrap64 (wrap64 ((q : Int) * 5) + 2)) 9 = (t2 : Int) ∧ t2 < 9 := ⟨(q * 5 + 2) % 9, by
            have := C.out
            have e1_ : wrap64 ((q : Int) * 5) = (q : Int) * 5 := by unfold wrap64; omega
            have e2_ : wrap64 ((q : Int) * 5 + 2) = (q : Int) * 5 + 2 := by unfold wrap64; omega
            rw [e1_, e2_, Int.tmod_eq_emod_of_nonneg (by omega)]; omega, by omega⟩
          have p1 : (0 ≤ (t1 : Int)) = True := eq_true (by omega)
          have q1 : ((t1 : Int) < 9) = True := eq_true (by omega)
          have p2 : (0 ≤ (t2 : Int)) = True := eq_true (by omega)
          have q2 : ((t2 : Int) < 9) = True := eq_true (by omega)
          generalize grownCap wr (txt q).size 0 5 = cp at HC ⊢
          generalize hw5 : Lib.bytesWorld wr 5 (txt q) = w5 at HH ⊢
          clear hw5
          generalize wr.heap.size = b at HH ⊢
          refine start_ (n := 37) (S := fun w' => Hd w n m b (txt q) w') (ds := []) #[false, false, false, false, false, false, false, false, false, false, false, false, false, false, false, false, false, false, false, false, false, false, false, false, false, false, false, false, false, false, false, false, false, false, false, false, false] (by kernel_rfl) rfl rfl HH.out.drew (fun hHeld => ?_)
          refine with_tabW tab15 bits15 (fun HT_ HW_ => ?_)
          generalize w5.drew = wr5 at hHeld ⊢
          clear HH
          refine pure_ (i := 0) (N := some 44) (v := ?_) (a' := ?_) #[true, false, false, false, false, false, false, false, false, false, false, false, false, false, false, false, false, false, false, false, false, false, false, false, false, false, false, false, false, false, false, false, false, false, false, false, false] rfl rfl (any_of HT_.out (by kernel_rfl)) (fun _ _ _ h => h) (Or.inl ⟨by rfl, ?_⟩) ?_ ?_
          rotate_left
          · intro w'
            go_simp
            with_reducible rfl
          rotate_left
          · simp only [Act.put, List.setIfInBounds_toArray, List.set_cons_zero, List.set_cons_succ, i64_w, i32_w]
            rfl
          refine pure_ (i := 2) (N := some 46) (v := ?_) (a' := ?_) #[true, false, true, false, false, false, false, false, false, false, false, false, false, false, false, false, false, false, false, false, false, false, false, false, false, false, false, false, false, false, false, false, false, false, false, false, false] rfl rfl (any_of HT_.out (by kernel_rfl)) (fun _ _ _ h => h) (Or.inl ⟨by rfl, ?_⟩) ?_ ?_
          rotate_left
          · intro w'
            go_simp
            with_reducible rfl
          rotate_left
          · simp only [Act.put, List.setIfInBounds_toArray, List.set_cons_zero, List.set_cons_succ, i64_w, i32_w]
            rfl
          refine pure_ (i := 3) (N := some 47) (v := ?_) (a' := ?_) #[true, false, true, true, false, false, false, false, false, false, false, false, false, false, false, false, false, false, false, false, false, false, false, false, false, false, false, false, false, false, false, false, false, false, false, false, false] rfl rfl (any_of HT_.out (by kernel_rfl)) (fun _ _ _ h => h) (Or.inl ⟨by rfl, ?_⟩) ?_ ?_
          rotate_left
          · intro w'
            go_simp
            with_reducible rfl
          rotate_left
          · simp only [Act.put, List.setIfInBounds_toArray, List.set_cons_zero, List.set_cons_succ, i64_w, i32_w]
            rfl
          refine pure_ (i := 4) (N := some 48) (v := ?_) (a' := ?_) #[true, false, true, true, true, false, false, false, false, false, false, false, false, false, false, false, false, false, false, false, false, false, false, false, false, false, false, false, false, false, false, false, false, false, false, false, false] rfl rfl (any_of HT_.out (by kernel_rfl)) (fun _ _ _ h => h) (Or.inl ⟨by rfl, ?_⟩) ?_ ?_
          rotate_left
          · intro w'
            go_simp
            with_reducible rfl
          rotate_left
          · simp only [Act.put, List.setIfInBounds_toArray, List.set_cons_zero, List.set_cons_succ, i64_w, i32_w]
            rfl
          refine take_ (i := 5) (N := some 49) (v := ?_) (a' := ?_) #[true, false, true, true, true, true, false, false, false, false, false, false, false, false, false, false, false, false, false, false, false, false, false, false, false, false, false, false, false, false, false, false, false, false, false, false, false] rfl rfl (take_ofW HT_.out HW_.out (by kernel_rfl)) (fun _ _ _ h => h) (Or.inl ⟨by rfl, ?_⟩) hHeld ?_ ?_
          rotate_left
          · intro w' hS
            have hx_ := hS.tab.sum q (by have := C.out; omega)
            go_simp
            with_reducible rfl
          rotate_left
          · simp only [Act.put, List.setIfInBounds_toArray, List.set_cons_zero, List.set_cons_succ, i64_w, i32_w]
            rfl
          refine one_ (i := 1) (N := some 45) #[true, true, true, true, true, true, false, false, false, false, false, false, false, false, false, false, false, false, false, false, false, false, false, false, false, false, false, false, false, false, false, false, false, false, false, false, false] rfl rfl (one_of HT_.out (by kernel_rfl)) (by decide) (fun K hK => ?_)
          refine goes_ Try.func12 (by kernel_rfl) rfl #[.slice (some ⟨b, 0, none⟩) (txt q).size cp] (by rfl) rfl rfl (by (try simp only [List.map_toArray, List.map_cons, List.map_nil]); first | done | rfl) ?_
          refine (sum (i := q) (by have := C.out; omega) hHeld.row (nums_length _).symm HC.out).mono ?_
          rintro e wc ⟨rfl, hb⟩
          refine ⟨_, rfl, ?_⟩
          refine hK.out _ _ (hHeld.below hb) (fun hH2 => ?_)
          clear hK K hb hHeld wr5
          rename World => wr5
          have hHeld := hH2
          clear hH2
          refine norm_ (a' := ?_) ?_ ?_
          rotate_left
          · show Act.put _ (some 45) _ = _
            simp only [Act.put, List.setIfInBounds_toArray, List.set_cons_zero, List.set_cons_succ, i64_w, i32_w]
            rfl
          refine pure_ (i := 6) (N := some 50) (v := ?_) (a' := ?_) #[true, true, true, true, true, true, true, false, false, false, false, false, false, false, false, false, false, false, false, false, false, false, false, false, false, false, false, false, false, false, false, false, false, false, false, false, false] rfl rfl (any_of HT_.out (by kernel_rfl)) (fun _ _ _ h => h) (Or.inl ⟨by rfl, ?_⟩) ?_ ?_
          rotate_left
          · intro w'
            go_simp
            with_reducible rfl
          rotate_left
          · simp only [Act.put, List.setIfInBounds_toArray, List.set_cons_zero, List.set_cons_succ, i64_w, i32_w]
            rfl
          refine pure_ (i := 7) (N := some 51) (v := ?_) (a' := ?_) #[true, true, true, true, true, true, true, true, false, false, false, false, false, false, false, false, false, false, false, false, false, false, false, false, false, false, false, false, false, false, false, false, false, false, false, false, false] rfl rfl (any_of HT_.out (by kernel_rfl)) (fun _ _ _ h => h) (Or.inl ⟨by rfl, ?_⟩) ?_ ?_
          rotate_left
          · intro w'
            go_simp
            with_reducible rfl
          rotate_left
          · simp only [Act.put, List.setIfInBounds_toArray, List.set_cons_zero, List.set_cons_succ, i64_w, i32_w]
            rfl
          refine pure_ (i := 8) (N := some 52) (v := ?_) (a' := ?_) #[true, true, true, true, true, true, true, true, true, false, false, false, false, false, false, false, false, false, false, false, false, false, false, false, false, false, false, false, false, false, false, false, false, false, false, false, false] rfl rfl (any_of HT_.out (by kernel_rfl)) (fun _ _ _ h => h) (Or.inl ⟨by rfl, ?_⟩) ?_ ?_
          rotate_left
          · intro w'
            go_simp
            with_reducible rfl
          rotate_left
          · simp only [Act.put, List.setIfInBounds_toArray, List.set_cons_zero, List.set_cons_succ, i64_w, i32_w]
            rfl
          refine one_ (i := 9) (N := some 53) #[true, true, true, true, true, true, true, true, true, true, false, false, false, false, false, false, false, false, false, false, false, false, false, false, false, false, false, false, false, false, false, false, false, false, false, false, false] rfl rfl (one_of HT_.out (by kernel_rfl)) (by decide) (fun K hK => ?_)
          refine goes_ Try.func4 (by kernel_rfl) rfl #[.slice (some ⟨b, 0, none⟩) (txt q).size cp] (by rfl) rfl rfl (by (try simp only [List.map_toArray, List.map_cons, List.map_nil]); first | done | rfl) ?_
          refine (line hHeld.row (nums_length _).symm HC.out (txt_size q)).mono ?_
          rintro e wc ⟨rfl, hb⟩
          refine ⟨_, rfl, ?_⟩
          refine hK.out _ _ (hHeld.below hb) (fun hH2 => ?_)
          clear hK K hb hHeld wr5
          rename World => wr5
          have hHeld := hH2
          clear hH2
          refine norm_ (a' := ?_) ?_ ?_
          rotate_left
          · show Act.put _ (some 53) _ = _
            simp only [Act.put, List.setIfInBounds_toArray, List.set_cons_zero, List.set_cons_succ, i64_w, i32_w]
            rfl
          refine pure_ (i := 10) (N := some 54) (v := ?_) (a' := ?_) #[true, true, true, true, true, true, true, true, true, true, true, false, false, false, false, false, false, false, false, false, false, false, false, false, false, false, false, false, false, false, false, false, false, false, false, false, false] rfl rfl (any_of HT_.out (by kernel_rfl)) (fun _ _ _ h => h) (Or.inl ⟨by rfl, ?_⟩) ?_ ?_
          rotate_left
          · intro w'
            go_simp
            with_reducible rfl
          rotate_left
          · simp only [Act.put, List.setIfInBounds_toArray, List.set_cons_zero, List.set_cons_succ, i64_w, i32_w]
            rfl
          refine pure_ (i := 11) (N := some 55) (v := ?_) (a' := ?_) #[true, true, true, true, true, true, true, true, true, true, true, true, false, false, false, false, false, false, false, false, false, false, false, false, false, false, false, false, false, false, false, false, false, false, false, false, false] rfl rfl (any_of HT_.out (by kernel_rfl)) (fun _ _ _ h => h) (Or.inl ⟨by rfl, ?_⟩) ?_ ?_
          rotate_left
          · intro w'
            go_simp
            with_reducible rfl
          rotate_left
          · simp only [Act.put, List.setIfInBounds_toArray, List.set_cons_zero, List.set_cons_succ, i64_w, i32_w]
            rfl
          refine pure_ (i := 12) (N := some 56) (v := ?_) (a' := ?_) #[true, true, true, true, true, true, true, true, true, true, true, true, true, false, false, false, false, false, false, false, false, false, false, false, false, false, false, false, false, false, false, false, false, false, false, false, false] rfl rfl (any_of HT_.out (by kernel_rfl)) (fun _ _ _ h => h) (Or.inl ⟨by rfl, ?_⟩) ?_ ?_
          rotate_left
          · intro w'
            go_simp
            with_reducible rfl
          rotate_left
          · simp only [Act.put, List.setIfInBounds_toArray, List.set_cons_zero, List.set_cons_succ, i64_w, i32_w]
            rfl
          refine pure_ (i := 13) (N := some 57) (v := ?_) (a' := ?_) #[true, true, true, true, true, true, true, true, true, true, true, true, true, true, false, false, false, false, false, false, false, false, false, false, false, false, false, false, false, false, false, false, false, false, false, false, false] rfl rfl (any_of HT_.out (by kernel_rfl)) (fun _ _ _ h => h) (Or.inl ⟨by rfl, ?_⟩) ?_ ?_
          rotate_left
          · intro w'
            go_simp
            with_reducible rfl
          rotate_left
          · simp only [Act.put, List.setIfInBounds_toArray, List.set_cons_zero, List.set_cons_succ, i64_w, i32_w]
            rfl
          refine one_ (i := 14) (N := some 58) #[true, true, true, true, true, true, true, true, true, true, true, true, true, true, true, false, false, false, false, false, false, false, false, false, false, false, false, false, false, false, false, false, false, false, false, false, false] rfl rfl (one_of HT_.out (by kernel_rfl)) (by decide) (fun K hK => ?_)
          refine goes_ Try.func5 (by kernel_rfl) rfl #[.slice (some ⟨b, 0, none⟩) (txt q).size cp] (by rfl) rfl rfl (by (try simp only [List.map_toArray, List.map_cons, List.map_nil]); first | done | rfl) ?_
          refine (self hHeld.row (nums_length _).symm HC.out (txt_size q)).mono ?_
          rintro e wc ⟨rfl, hb⟩
          refine ⟨_, rfl, ?_⟩
          refine hK.out _ _ (hHeld.below hb) (fun hH2 => ?_)
          clear hK K hb hHeld wr5
          rename World => wr5
          have hHeld := hH2
          clear hH2
          refine norm_ (a' := ?_) ?_ ?_
          rotate_left
          · show Act.put _ (some 58) _ = _
            simp only [Act.put, List.setIfInBounds_toArray, List.set_cons_zero, List.set_cons_succ, i64_w, i32_w]
            rfl
          refine pure_ (i := 15) (N := some 59) (v := ?_) (a' := ?_) #[true, true, true, true, true, true, true, true, true, true, true, true, true, true, true, true, false, false, false, false, false, false, false, false, false, false, false, false, false, false, false, false, false, false, false, false, false] rfl rfl (any_of HT_.out (by kernel_rfl)) (fun _ _ _ h => h) (Or.inl ⟨by rfl, ?_⟩) ?_ ?_
          rotate_left
          · intro w'
            go_simp
            with_reducible rfl
          rotate_left
          · simp only [Act.put, List.setIfInBounds_toArray, List.set_cons_zero, List.set_cons_succ, i64_w, i32_w]
            rfl
          refine pure_ (i := 16) (N := some 60) (v := ?_) (a' := ?_) #[true, true, true, true, true, true, true, true, true, true, true, true, true, true, true, true, true, false, false, false, false, false, false, false, false, false, false, false, false, false, false, false, false, false, false, false, false] rfl rfl (any_of HT_.out (by kernel_rfl)) (fun _ _ _ h => h) (Or.inl ⟨by rfl, ?_⟩) ?_ ?_
          rotate_left
          · intro w'
            go_simp
            with_reducible rfl
          rotate_left
          · simp only [Act.put, List.setIfInBounds_toArray, List.set_cons_zero, List.set_cons_succ, i64_w, i32_w]
            rfl
          refine pure_ (i := 17) (N := some 61) (v := ?_) (a' := ?_) #[true, true, true, true, true, true, true, true, true, true, true, true, true, true, true, true, true, true, false, false, false, false, false, false, false, false, false, false, false, false, false, false, false, false, false, false, false] rfl rfl (any_of HT_.out (by kernel_rfl)) (fun _ _ _ h => h) (Or.inl ⟨by rfl, ?_⟩) ?_ ?_
          rotate_left
          · intro w'
            go_simp
            with_reducible rfl
          rotate_left
          · simp only [Act.put, List.setIfInBounds_toArray, List.set_cons_zero, List.set_cons_succ, i64_w, i32_w]
            rfl
          refine pure_ (i := 18) (N := some 62) (v := ?_) (a' := ?_) #[true, true, true, true, true, true, true, true, true, true, true, true, true, true, true, true, true, true, true, false, false, false, false, false, false, false, false, false, false, false, false, false, false, false, false, false, false] rfl rfl (any_of HT_.out (by kernel_rfl)) (fun _ _ _ h => h) (Or.inl ⟨by rfl, ?_⟩) ?_ ?_
          rotate_left
          · intro w'
            go_simp
            with_reducible rfl
          rotate_left
          · simp only [Act.put, List.setIfInBounds_toArray, List.set_cons_zero, List.set_cons_succ, i64_w, i32_w]
            rfl
          refine pure_ (i := 19) (N := some 63) (v := ?_) (a' := ?_) #[true, true, true, true, true, true, true, true, true, true, true, true, true, true, true, true, true, true, true, true, false, false, false, false, false, false, false, false, false, false, false, false, false, false, false, false, false] rfl rfl (any_of HT_.out (by kernel_rfl)) (fun _ _ _ h => h) (Or.inl ⟨by rfl, ?_⟩) ?_ ?_
          rotate_left
          · intro w'
            go_simp
            with_reducible rfl
          rotate_left
          · simp only [Act.put, List.setIfInBounds_toArray, List.set_cons_zero, List.set_cons_succ, i64_w, i32_w]
            rfl
          refine pure_ (i := 20) (N := some 64) (v := ?_) (a' := ?_) #[true, true, true, true, true, true, true, true, true, true, true, true, true, true, true, true, true, true, true, true, true, false, false, false, false, false, false, false, false, false, false, false, false, false, false, false, false] rfl rfl (any_of HT_.out (by kernel_rfl)) (fun _ _ _ h => h) (Or.inl ⟨by rfl, ?_⟩) ?_ ?_
          rotate_left
          · intro w'
            go_simp
            with_reducible rfl
          rotate_left
          · simp only [Act.put, List.setIfInBounds_toArray, List.set_cons_zero, List.set_cons_succ, i64_w, i32_w]
            rfl
          refine pure_ (i := 21) (N := some 65) (v := ?_) (a' := ?_) #[true, true, true, true, true, true, true, true, true, true, true, true, true, true, true, true, true, true, true, true, true, true, false, false, false, false, false, false, false, false, false, false, false, false, false, false, false] rfl rfl (any_of HT_.out (by kernel_rfl)) (fun _ _ _ h => h) (Or.inl ⟨by rfl, ?_⟩) ?_ ?_
          rotate_left
          · intro w'
            go_simp
            with_reducible rfl
          rotate_left
          · simp only [Act.put, List.setIfInBounds_toArray, List.set_cons_zero, List.set_cons_succ, i64_w, i32_w]
            rfl
          refine pure_ (i := 22) (N := some 66) (v := ?_) (a' := ?_) #[true, true, true, true, true, true, true, true, true, true, true, true, true, true, true, true, true, true, true, true, true, true, true, false, false, false, false, false, false, false, false, false, false, false, false, false, false] rfl rfl (any_of HT_.out (by kernel_rfl)) (fun _ _ _ h => h) (Or.inl ⟨by rfl, ?_⟩) ?_ ?_
          rotate_left
          · intro w'
            go_simp
            with_reducible rfl
          rotate_left
          · simp only [Act.put, List.setIfInBounds_toArray, List.set_cons_zero, List.set_cons_succ, i64_w, i32_w]
            rfl
          refine pure_ (i := 23) (N := some 67) (v := ?_) (a' := ?_) #[true, true, true, true, true, true, true, true, true, true, true, true, true, true, true, true, true, true, true, true, true, true, true, true, false, false, false, false, false, false, false, false, false, false, false, false, false] rfl rfl (any_of HT_.out (by kernel_rfl)) (fun _ _ _ h => h) (Or.inl ⟨by rfl, ?_⟩) ?_ ?_
          rotate_left
          · intro w'
            go_simp
            with_reducible rfl
          rotate_left
          · simp only [Act.put, List.setIfInBounds_toArray, List.set_cons_zero, List.set_cons_succ, i64_w, i32_w]
            rfl
          refine take_ (i := 24) (N := some 68) (v := ?_) (a' := ?_) #[true, true, true, true, true, true, true, true, true, true, true, true, true, true, true, true, true, true, true, true, true, true, true, true, true, false, false, false, false, false, false, false, false, false, false, false, false] rfl rfl (take_ofW HT_.out HW_.out (by kernel_rfl)) (fun _ _ _ h => h) (Or.inl ⟨by rfl, ?_⟩) hHeld ?_ ?_
          rotate_left
          · intro w' hS
            have hx_ := hS.tab.text t1 ht1
            go_simp
            with_reducible rfl
          rotate_left
          · simp only [Act.put, List.setIfInBounds_toArray, List.set_cons_zero, List.set_cons_succ, i64_w, i32_w]
            rfl
          refine pure_ (i := 26) (N := some 70) (v := ?_) (a' := ?_) #[true, true, true, true, true, true, true, true, true, true, true, true, true, true, true, true, true, true, true, true, true, true, true, true, true, false, true, false, false, false, false, false, false, false, false, false, false] rfl rfl (any_of HT_.out (by kernel_rfl)) (fun _ _ _ h => h) (Or.inl ⟨by rfl, ?_⟩) ?_ ?_
          rotate_left
          · intro w'
            go_simp
            with_reducible rfl
          rotate_left
          · simp only [Act.put, List.setIfInBounds_toArray, List.set_cons_zero, List.set_cons_succ, i64_w, i32_w]
            rfl
          refine pure_ (i := 27) (N := some 71) (v := ?_) (a' := ?_) #[true, true, true, true, true, true, true, true, true, true, true, true, true, true, true, true, true, true, true, true, true, true, true, true, true, false, true, true, false, false, false, false, false, false, false, false, false] rfl rfl (any_of HT_.out (by kernel_rfl)) (fun _ _ _ h => h) (Or.inl ⟨by rfl, ?_⟩) ?_ ?_
          rotate_left
          · intro w'
            go_simp
            with_reducible rfl
          rotate_left
          · simp only [Act.put, List.setIfInBounds_toArray, List.set_cons_zero, List.set_cons_succ, i64_w, i32_w]
            rfl
          refine pure_ (i := 28) (N := some 72) (v := ?_) (a' := ?_) #[true, true, true, true, true, true, true, true, true, true, true, true, true, true, true, true, true, true, true, true, true, true, true, true, true, false, true, true, true, false, false, false, false, false, false, false, false] rfl rfl (any_of HT_.out (by kernel_rfl)) (fun _ _ _ h => h) (Or.inl ⟨by rfl, ?_⟩) ?_ ?_
          rotate_left
          · intro w'
            go_simp
            with_reducible rfl
          rotate_left
          · simp only [Act.put, List.setIfInBounds_toArray, List.set_cons_zero, List.set_cons_succ, i64_w, i32_w]
            rfl
          refine pure_ (i := 29) (N := some 73) (v := ?_) (a' := ?_) #[true, true, true, true, true, true, true, true, true, true, true, true, true, true, true, true, true, true, true, true, true, true, true, true, true, false, true, true, true, true, false, false, false, false, false, false, false] rfl rfl (any_of HT_.out (by kernel_rfl)) (fun _ _ _ h => h) (Or.inl ⟨by rfl, ?_⟩) ?_ ?_
          rotate_left
          · intro w'
            go_simp
            with_reducible rfl
          rotate_left
          · simp only [Act.put, List.setIfInBounds_toArray, List.set_cons_zero, List.set_cons_succ, i64_w, i32_w]
            rfl
          refine pure_ (i := 30) (N := some 74) (v := ?_) (a' := ?_) #[true, true, true, true, true, true, true, true, true, true, true, true, true, true, true, true, true, true, true, true, true, true, true, true, true, false, true, true, true, true, true, false, false, false, false, false, false] rfl rfl (any_of HT_.out (by kernel_rfl)) (fun _ _ _ h => h) (Or.inl ⟨by rfl, ?_⟩) ?_ ?_
          rotate_left
          · intro w'
            go_simp
            with_reducible rfl
          rotate_left
          · simp only [Act.put, List.setIfInBounds_toArray, List.set_cons_zero, List.set_cons_succ, i64_w, i32_w]
            rfl
          refine pure_ (i := 31) (N := some 75) (v := ?_) (a' := ?_) #[true, true, true, true, true, true, true, true, true, true, true, true, true, true, true, true, true, true, true, true, true, true, true, true, true, false, true, true, true, true, true, true, false, false, false, false, false] rfl rfl (any_of HT_.out (by kernel_rfl)) (fun _ _ _ h => h) (Or.inl ⟨by rfl, ?_⟩) ?_ ?_
          rotate_left
          · intro w'
            go_simp
            with_reducible rfl
          rotate_left
          · simp only [Act.put, List.setIfInBounds_toArray, List.set_cons_zero, List.set_cons_succ, i64_w, i32_w]
            rfl
          refine take_ (i := 32) (N := some 76) (v := ?_) (a' := ?_) #[true, true, true, true, true, true, true, true, true, true, true, true, true, true, true, true, true, true, true, true, true, true, true, true, true, false, true, true, true, true, true, true, true, false, false, false, false] rfl rfl (take_ofW HT_.out HW_.out (by kernel_rfl)) (fun _ _ _ h => h) (Or.inl ⟨by rfl, ?_⟩) hHeld ?_ ?_
          rotate_left
          · intro w' hS
            have hx_ := hS.tab.text t2 ht2
            go_simp
            with_reducible rfl
          rotate_left
          · simp only [Act.put, List.setIfInBounds_toArray, List.set_cons_zero, List.set_cons_succ, i64_w, i32_w]
            rfl
          refine two_ (i := 25) (j := 33) (Ni := some 69) (Nj := some 77) #[true, true, true, true, true, true, true, true, true, true, true, true, true, true, true, true, true, true, true, true, true, true, true, true, true, true, true, true, true, true, true, true, true, false, false, false, false] #[true, true, true, true, true, true, true, true, true, true, true, true, true, true, true, true, true, true, true, true, true, true, true, true, true, false, true, true, true, true, true, true, true, true, false, false, false] rfl rfl rfl rfl (two_of HT_.out (by kernel_rfl)) (by decide) (by decide) ?_ ?_
          · intro K hK
            refine value_ (w1 := Lib.bytesWorld wr5 5 (txt t1)) (v := .slice (some ⟨wr5.heap.size, 0, none⟩) (txt t1).size (grownCap wr5 (txt t1).size 0 5)) (by rfl) rfl (by go_simp; first | done | rfl) ?_
            have hr1 := bytes_row wr5 (txt t1) (txt_size t1)
            have hc1 := Lib_cap wr5 (txt t1)
            refine hK.out _ _ (hHeld.bytes (txt t1)) (fun hHeld => ?_)
            clear hK K
            refine norm_ (a' := ?_) ?_ ?_
            rotate_left
            · show Act.put _ (some 69) _ = _
              simp only [Act.put, List.setIfInBounds_toArray, List.set_cons_zero, List.set_cons_succ, i64_w, i32_w]
              rfl
            generalize grownCap wr5 (txt t1).size 0 5 = cap1 at hc1 ⊢
            generalize hwq : Lib.bytesWorld wr5 5 (txt t1) = wr6 at hr1 hHeld ⊢
            clear hwq
            generalize wr5.heap.size = b1 at hr1 ⊢
            refine one_ (i := 33) (N := some 77) #[true, true, true, true, true, true, true, true, true, true, true, true, true, true, true, true, true, true, true, true, true, true, true, true, true, true, true, true, true, true, true, true, true, true, false, false, false] rfl rfl (one_of HT_.out (by kernel_rfl)) (by decide) (fun K hK => ?_)
            refine value_ (w1 := Lib.bytesWorld wr6 5 (txt t2)) (v := .slice (some ⟨wr6.heap.size, 0, none⟩) (txt t2).size (grownCap wr6 (txt t2).size 0 5)) (by rfl) rfl (by go_simp; first | done | rfl) ?_
            have hr2 := bytes_row wr6 (txt t2) (txt_size t2)
            have hc2 := Lib_cap wr6 (txt t2)
            have hr1 := Kd.C_below hr1 (bytes_below (Below.refl _ _) (txt t2))
            refine hK.out _ _ (hHeld.bytes (txt t2)) (fun hHeld => ?_)
            clear hK K
            refine norm_ (a' := ?_) ?_ ?_
            rotate_left
            · show Act.put _ (some 77) _ = _
              simp only [Act.put, List.setIfInBounds_toArray, List.set_cons_zero, List.set_cons_succ, i64_w, i32_w]
              rfl
            generalize grownCap wr6 (txt t2).size 0 5 = cap2 at hc2 ⊢
            generalize hwq : Lib.bytesWorld wr6 5 (txt t2) = wr7 at hr1 hr2 hHeld ⊢
            clear hwq
            generalize wr6.heap.size = b2 at hr2 ⊢
            refine one_ (i := 34) (N := some 78) #[true, true, true, true, true, true, true, true, true, true, true, true, true, true, true, true, true, true, true, true, true, true, true, true, true, true, true, true, true, true, true, true, true, true, true, false, false] rfl rfl (one_of HT_.out (by kernel_rfl)) (by decide) (fun K hK => ?_)
            refine goes_ Try.func7 (by kernel_rfl) rfl #[.slice (some ⟨b, 0, none⟩) (txt q).size cp, .slice (some ⟨b1, 0, none⟩) (txt t1).size cap1, .slice (some ⟨b2, 0, none⟩) (txt t2).size cap2] (by rfl) rfl rfl (by (try simp only [List.map_toArray, List.map_cons, List.map_nil]); first | done | rfl) ?_
            refine (three hHeld.row (nums_length _).symm HC.out (txt_size q) hr1 (nums_length _).symm hc1 (txt_size t1) hr2 (nums_length _).symm hc2 (txt_size t2)).mono ?_
            rintro e wc ⟨rfl, hb⟩
            refine ⟨_, rfl, ?_⟩
            refine hK.out _ _ (hHeld.below hb) (fun hHeld => ?_)
            clear hK K
            refine norm_ (a' := ?_) ?_ ?_
            rotate_left
            · show Act.put _ (some 78) _ = _
              simp only [Act.put, List.setIfInBounds_toArray, List.set_cons_zero, List.set_cons_succ, i64_w, i32_w]
              rfl
            refine pure_ (i := 35) (N := some 79) (v := ?_) (a' := ?_) #[true, true, true, true, true, true, true, true, true, true, true, true, true, true, true, true, true, true, true, true, true, true, true, true, true, true, true, true, true, true, true, true, true, true, true, true, false] rfl rfl (any_of HT_.out (by kernel_rfl)) (fun _ _ _ h => h) (Or.inl ⟨by rfl, ?_⟩) ?_ ?_
            rotate_left
            · intro w'
              go_simp
              with_reducible rfl
            rotate_left
            · simp only [Act.put, List.setIfInBounds_toArray, List.set_cons_zero, List.set_cons_succ, i64_w, i32_w]
              rfl
            refine pure_ (i := 36) (N := some 80) (v := ?_) (a' := ?_) #[true, true, true, true, true, true, true, true, true, true, true, true, true, true, true, true, true, true, true, true, true, true, true, true, true, true, true, true, true, true, true, true, true, true, true, true, true] rfl rfl (any_of HT_.out (by kernel_rfl)) (fun _ _ _ h => h) (Or.inl ⟨by rfl, ?_⟩) ?_ ?_
            rotate_left
            · intro w'
              go_simp
              with_reducible rfl
            rotate_left
            · simp only [Act.put, List.setIfInBounds_toArray, List.set_cons_zero, List.set_cons_succ, i64_w, i32_w]
              rfl
            refine done_ (done_of HT_.out (by kernel_rfl)) ?_
            clear hr1 hr2
            have HH := Aside0.mk hHeld
            clear hHeld
            go_wp2_with fail
            go_loopg [7] 40 (fun kq v7 w' => ∃ (z : Nat), v7 = .int .u16 (z : Int) ∧ Aside0 (z ≤ 40) ∧ Aside0 (kq = 40 - z) ∧ Aside0 (Hd w n m b (txt q) w'))
            case atStart => exact ⟨0, rfl, ⟨by omega⟩, ⟨by omega⟩, HH⟩
            case round =>
              clear HH
              obtain ⟨z, rfl, HZ, HL, HH⟩ := hrel
              by_cases c4 : (z : Int) < 40
              · have cb4 : decide ((z : Int) < 40) = true := decide_eq_true c4
                have C4 := Aside0.mk c4
                clear c4
                go_wp2_with fail
                refine (bits _ _ _ (wf_z HZ.out) (wf_u16 _) (wf_u16 _) HH.out.row (nums_length _).symm HC.out (txt_size q)).mono ?_
                rintro e wd ⟨rfl, hd⟩
                have n0_ := Aside0.mk (HH.out.below hd)
                clear HH hd
                have HH := n0_
                clear n0_
                go_wp2_with fail
                refine (bits _ _ _ (wf_z HZ.out) (wf_z HZ.out) (wf_u16 _) HH.out.row (nums_length _).symm HC.out (txt_size q)).mono ?_
                rintro e wd2 ⟨rfl, hd⟩
                have n0_ := Aside0.mk (HH.out.below hd)
                clear HH hd
                have HH := n0_
                clear n0_
                go_wp2_with fail
                refine (bits _ _ _ (by decide) (wf_z HZ.out) (by decide) HH.out.row (nums_length _).symm HC.out (txt_size q)).mono ?_
                rintro e wd3 ⟨rfl, hd⟩
                have n0_ := Aside0.mk (HH.out.below hd)
                clear HH hd
                have HH := n0_
                clear n0_
                go_wp2_with fail
                have ez : IntKind.u16.wrap ((z : Int) + 1) = ((z + 1 : Nat) : Int) := by have := HZ.out; simp [IntKind.wrap, IntKind.signed, IntKind.bits]; omega
                go_roundg (39 - z)
                case measure => have := HL.out; have := C4.out; omega
                case rel => exact ⟨z + 1, (by first | rfl | (simp [ez]; done) | (rw [ez])), ⟨by have := C4.out; omega⟩, ⟨by omega⟩, HH⟩
              · have cb4 : decide ((z : Int) < 40) = false := decide_eq_false c4
                clear c4
                go_wp2_with fail
                have e1 : wrap64 ((q : Int) + 1) = ((q + 1 : Nat) : Int) := by have := HQ.out; unfold wrap64; omega
                go_roundg (8 - q)
                case measure => have := HK.out; have := C.out; omega
                case rel => exact ⟨q + 1, (by first | rfl | (simp [e1]; done) | (rw [i64_w, e1])), ⟨by have := C.out; omega⟩, ⟨by omega⟩, ⟨HH.out.tab⟩, ⟨HH.out.below0⟩⟩
          · intro K hK
            refine value_ (w1 := Lib.bytesWorld wr5 5 (txt t2)) (v := .slice (some ⟨wr5.heap.size, 0, none⟩) (txt t2).size (grownCap wr5 (txt t2).size 0 5)) (by rfl) rfl (by go_simp; first | done | rfl) ?_
            have hr1 := bytes_row wr5 (txt t2) (txt_size t2)
            have hc1 := Lib_cap wr5 (txt t2)
            refine hK.out _ _ (hHeld.bytes (txt t2)) (fun hHeld => ?_)
            clear hK K
            refine norm_ (a' := ?_) ?_ ?_
            rotate_left
            · show Act.put _ (some 77) _ = _
              simp only [Act.put, List.setIfInBounds_toArray, List.set_cons_zero, List.set_cons_succ, i64_w, i32_w]
              rfl
            generalize grownCap wr5 (txt t2).size 0 5 = cap1 at hc1 ⊢
            generalize hwq : Lib.bytesWorld wr5 5 (txt t2) = wr6 at hr1 hHeld ⊢
            clear hwq
            generalize wr5.heap.size = b1 at hr1 ⊢
            refine one_ (i := 25) (N := some 69) #[true, true, true, true, true, true, true, true, true, true, true, true, true, true, true, true, true, true, true, true, true, true, true, true, true, true, true, true, true, true, true, true, true, true, false, false, false] rfl rfl (one_of HT_.out (by kernel_rfl)) (by decide) (fun K hK => ?_)
            refine value_ (w1 := Lib.bytesWorld wr6 5 (txt t1)) (v := .slice (some ⟨wr6.heap.size, 0, none⟩) (txt t1).size (grownCap wr6 (txt t1).size 0 5)) (by rfl) rfl (by go_simp; first | done | rfl) ?_
            have hr2 := bytes_row wr6 (txt t1) (txt_size t1)
            have hc2 := Lib_cap wr6 (txt t1)
            have hr1 := Kd.C_below hr1 (bytes_below (Below.refl _ _) (txt t1))
            refine hK.out _ _ (hHeld.bytes (txt t1)) (fun hHeld => ?_)
            clear hK K
            refine norm_ (a' := ?_) ?_ ?_
            rotate_left
            · show Act.put _ (some 69) _ = _
              simp only [Act.put, List.setIfInBounds_toArray, List.set_cons_zero, List.set_cons_succ, i64_w, i32_w]
              rfl
            generalize grownCap wr6 (txt t1).size 0 5 = cap2 at hc2 ⊢
            generalize hwq : Lib.bytesWorld wr6 5 (txt t1) = wr7 at hr1 hr2 hHeld ⊢
            clear hwq
            generalize wr6.heap.size = b2 at hr2 ⊢
            refine one_ (i := 34) (N := some 78) #[true, true, true, true, true, true, true, true, true, true, true, true, true, true, true, true, true, true, true, true, true, true, true, true, true, true, true, true, true, true, true, true, true, true, true, false, false] rfl rfl (one_of HT_.out (by kernel_rfl)) (by decide) (fun K hK => ?_)
            refine goes_ Try.func7 (by kernel_rfl) rfl #[.slice (some ⟨b, 0, none⟩) (txt q).size cp, .slice (some ⟨b2, 0, none⟩) (txt t1).size cap2, .slice (some ⟨b1, 0, none⟩) (txt t2).size cap1] (by rfl) rfl rfl (by (try simp only [List.map_toArray, List.map_cons, List.map_nil]); first | done | rfl) ?_
            refine (three hHeld.row (nums_length _).symm HC.out (txt_size q) hr2 (nums_length _).symm hc2 (txt_size t1) hr1 (nums_length _).symm hc1 (txt_size t2)).mono ?_
            rintro e wc ⟨rfl, hb⟩
            refine ⟨_, rfl, ?_⟩
            refine hK.out _ _ (hHeld.below hb) (fun hHeld => ?_)
            clear hK K
            refine norm_ (a' := ?_) ?_ ?_
            rotate_left
            · show Act.put _ (some 78) _ = _
              simp only [Act.put, List.setIfInBounds_toArray, List.set_cons_zero, List.set_cons_succ, i64_w, i32_w]
              rfl
            refine pure_ (i := 35) (N := some 79) (v := ?_) (a' := ?_) #[true, true, true, true, true, true, true, true, true, true, true, true, true, true, true, true, true, true, true, true, true, true, true, true, true, true, true, true, true, true, true, true, true, true, true, true, false] rfl rfl (any_of HT_.out (by kernel_rfl)) (fun _ _ _ h => h) (Or.inl ⟨by rfl, ?_⟩) ?_ ?_
            rotate_left
            · intro w'
              go_simp
              with_reducible rfl
            rotate_left
            · simp only [Act.put, List.setIfInBounds_toArray, List.set_cons_zero, List.set_cons_succ, i64_w, i32_w]
              rfl
            refine pure_ (i := 36) (N := some 80) (v := ?_) (a' := ?_) #[true, true, true, true, true, true, true, true, true, true, true, true, true, true, true, true, true, true, true, true, true, true, true, true, true, true, true, true, true, true, true, true, true, true, true, true, true] rfl rfl (any_of HT_.out (by kernel_rfl)) (fun _ _ _ h => h) (Or.inl ⟨by rfl, ?_⟩) ?_ ?_
            rotate_left
            · intro w'
              go_simp
              with_reducible rfl
            rotate_left
            · simp only [Act.put, List.setIfInBounds_toArray, List.set_cons_zero, List.set_cons_succ, i64_w, i32_w]
              rfl
            refine done_ (done_of HT_.out (by kernel_rfl)) ?_
            clear hr1 hr2
            have HH := Aside0.mk hHeld
            clear hHeld
            go_wp2_with fail
            go_loopg [7] 40 (fun kq v7 w' => ∃ (z : Nat), v7 = .int .u16 (z : Int) ∧ Aside0 (z ≤ 40) ∧ Aside0 (kq = 40 - z) ∧ Aside0 (Hd w n m b (txt q) w'))
            case atStart => exact ⟨0, rfl, ⟨by omega⟩, ⟨by omega⟩, HH⟩
            case round =>
              clear HH
              obtain ⟨z, rfl, HZ, HL, HH⟩ := hrel
              by_cases c4 : (z : Int) < 40
              · have cb4 : decide ((z : Int) < 40) = true := decide_eq_true c4
                have C4 := Aside0.mk c4
                clear c4
                go_wp2_with fail
                refine (bits _ _ _ (wf_z HZ.out) (wf_u16 _) (wf_u16 _) HH.out.row (nums_length _).symm HC.out (txt_size q)).mono ?_
                rintro e wd ⟨rfl, hd⟩
                have n0_ := Aside0.mk (HH.out.below hd)
                clear HH hd
                have HH := n0_
                clear n0_
                go_wp2_with fail
                refine (bits _ _ _ (wf_z HZ.out) (wf_z HZ.out) (wf_u16 _) HH.out.row (nums_length _).symm HC.out (txt_size q)).mono ?_
                rintro e wd2 ⟨rfl, hd⟩
                have n0_ := Aside0.mk (HH.out.below hd)
                clear HH hd
                have HH := n0_
                clear n0_
                go_wp2_with fail
                refine (bits _ _ _ (by decide) (wf_z HZ.out) (by decide) HH.out.row (nums_length _).symm HC.out (txt_size q)).mono ?_
                rintro e wd3 ⟨rfl, hd⟩
                have n0_ := Aside0.mk (HH.out.below hd)
                clear HH hd
                have HH := n0_
                clear n0_
                go_wp2_with fail
                have ez : IntKind.u16.wrap ((z : Int) + 1) = ((z + 1 : Nat) : Int) := by have := HZ.out; simp [IntKind.wrap, IntKind.signed, IntKind.bits]; omega
                go_roundg (39 - z)
                case measure => have := HL.out; have := C4.out; omega
                case rel => exact ⟨z + 1, (by first | rfl | (simp [ez]; done) | (rw [ez])), ⟨by have := C4.out; omega⟩, ⟨by omega⟩, HH⟩
              · have cb4 : decide ((z : Int) < 40) = false := decide_eq_false c4
                clear c4
                go_wp2_with fail
                have e1 : wrap64 ((q : Int) + 1) = ((q + 1 : Nat) : Int) := by have := HQ.out; unfold wrap64; omega
                go_roundg (8 - q)
                case measure => have := HK.out; have := C.out; omega
                case rel => exact ⟨q + 1, (by first | rfl | (simp [e1]; done) | (rw [i64_w, e1])), ⟨by have := C.out; omega⟩, ⟨by omega⟩, ⟨HH.out.tab⟩, ⟨HH.out.below0⟩⟩
        · have cb : decide ((q : Int) < 9) = false := decide_eq_false c3
          clear c3
          go_wp2_with fail
          refine (step_last _).mono ?_
          rintro e wd ⟨rfl, hd⟩
          have n0_ := Aside0.mk (below_step HB.out hd)
          clear HB hd
          have HB := n0_
          clear n0_
          go_wp2_with fail
          refine (works_any _).mono ?_
          rintro e wd2 ⟨rfl, hd⟩
          have n0_ := Aside0.mk (below_step HB.out hd)
          clear HB hd
          have HB := n0_
          clear n0_
          go_wp2_with fail
          go_ret
          exact ⟨rfl, HB.out⟩
end Go.Proofs.Ytnnhlladcmgmnaa.Known
