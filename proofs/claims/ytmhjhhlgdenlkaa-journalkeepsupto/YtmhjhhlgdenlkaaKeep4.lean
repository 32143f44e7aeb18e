/- What the proof stands on, part 4 of 5. -/
import Derived.Ground.GgwProg
import Derived.Lib.Strings
import Derived.Shelf.GgClosure.StringsIndexFunc
import Derived.Shelf.GgClosure.StringsIndexFuncTop
import Derived.Shelf.Slices.Turned
import Derived.Shelf.Small.Strs
import Derived.Shelf.Strings.Builder1
import Derived.Shelf.Strings.BuilderCap
import Derived.Shelf.Strings.BuilderF
import Derived.Shelf.Strings.BuilderK
import Derived.Shelf.Strings.Prefix
import Derived.Shelf.Strings.Search1
import Derived.Test.YtmhjhhlgdenlkaaProg
import Derived.WalkKit
import Derived.Test.YtmhjhhlgdenlkaaKeep1
import Derived.Test.YtmhjhhlgdenlkaaKeep2
namespace Go.Proofs
open Go.Shelf
def Try.lays169_ren : Go.Shelf.Ren := ⟨fun | 169 => 63 | n => n, fun | 70 => 100 | 9 => 9 | 0 => 0 | 72 => 102 | 37 => 57 | 127 => 118 | 3 => 3 | 5 => 5 | n => n, fun | n => n⟩
theorem Try.lays169 : Go.Proofs.Lays.n169 Try.prog Try.lays169_ren := {
  mixed := by kernel_rfl
  f169 := Try.func63.trans (congrArg some (by kernel_rfl))
  t0 := Try.underlying0
  a0 := Try.isAgg0
  z0 := Try.sizeOf0
  v0 := Try.zeroValue0
  t3 := Try.underlying3
  a3 := Try.isAgg3
  z3 := Try.sizeOf3
  v3 := Try.zeroValue3
  t9 := Try.underlying9
  a9 := Try.isAgg9
  z9 := Try.sizeOf9
  v9 := Try.zeroValue9
  t37 := Try.underlying57
  a37 := Try.isAgg57
  z37 := Try.sizeOf57
  v37 := Try.zeroValue57
  t70 := Try.underlying100
  a70 := Try.isAgg100
  z70 := Try.sizeOf100
  v70 := Try.zeroValue100
  t72 := Try.underlying102
  a72 := Try.isAgg102
  z72 := Try.sizeOf102
  v72 := Try.zeroValue102
  t127 := Try.underlying118
  a127 := Try.isAgg118
  z127 := Try.sizeOf118
  v127 := Try.zeroValue118 }
theorem Try.Builder_Extra_169 : Builder.Extra Try.prog Try.lays169_ren := {
  sizeBuilder := by kernel_rfl
  liesBuilder := by kernel_rfl
  t5 := Try.underlying5
  a5 := Try.isAgg5
  z5 := Try.sizeOf5
  v5 := Try.zeroValue5
  infoByte := by kernel_rfl
  cellsByte := by kernel_rfl
  sizeByte := by kernel_rfl
  neB5 := by decide }
open Go.RowKit in
theorem Try.Builder_String_any (B b : Nat) (l : List UInt8) (w : World) (h : Lib.IsBuilder 102 5 B b (Lib.byteCells l) w) (hBw : B ≤ w.heap.size) :
    Calls Try.prog 63 #[.pointer (some ⟨b, 0, none⟩)] w fun e w' => e = .returned (.string ⟨l.toArray⟩) ∧ Below B w w' := Any.Builder_String_any Try.lays169 Try.Builder_Extra_169 B b l w h hBw
def Try.lays137_ren : Go.Shelf.Ren := ⟨fun | 137 => 99 | 217 => 103 | 266 => 104 | n => n, fun | 9 => 9 | 5 => 5 | 3 => 3 | n => n, fun | n => n⟩
theorem Try.lays137 : Go.Proofs.Lays.n137 Try.prog Try.lays137_ren := {
  mixed := by kernel_rfl
  f137 := Try.func99.trans (congrArg some (by kernel_rfl))
  f217 := Try.func103.trans (congrArg some (by kernel_rfl))
  f266 := Try.func104.trans (congrArg some (by kernel_rfl))
  t3 := Try.underlying3
  a3 := Try.isAgg3
  z3 := Try.sizeOf3
  v3 := Try.zeroValue3
  t5 := Try.underlying5
  a5 := Try.isAgg5
  z5 := Try.sizeOf5
  v5 := Try.zeroValue5
  t9 := Try.underlying9
  a9 := Try.isAgg9
  z9 := Try.sizeOf9
  v9 := Try.zeroValue9 }
open Go.RowKit in
theorem Try.strings_IndexByte (s : ByteArray) (c : Int) (w : World) :
    Calls Try.prog 99 #[.string s, .int .u8 c] w fun e w' => e = .returned (.int .i64 (Lib.indexByte s.data.toList c.toNat.toUInt8)) ∧ w' = w := Any.strings_IndexByte Try.lays137 s c w
def Try.laysGw17_ren : Go.Shelf.Ren := ⟨fun | 17 => 78 | 15 => 88 | 20 => 92 | n => n, fun | 9 => 9 | 23 => 120 | 4 => 4 | 3 => 3 | 0 => 0 | 21 => 21 | n => n, fun | n => n⟩
theorem Try.laysGw17 : Go.Proofs.LaysGw.n17 Try.prog Try.laysGw17_ren := {
  mixed := by kernel_rfl
  f15 := Try.func88.trans (congrArg some (by kernel_rfl))
  f17 := Try.func78.trans (congrArg some (by kernel_rfl))
  f20 := Try.func92.trans (congrArg some (by kernel_rfl))
  t0 := Try.underlying0
  a0 := Try.isAgg0
  z0 := Try.sizeOf0
  v0 := Try.zeroValue0
  i0 := by kernel_rfl
  t3 := Try.underlying3
  a3 := Try.isAgg3
  z3 := Try.sizeOf3
  v3 := Try.zeroValue3
  i3 := by kernel_rfl
  t4 := Try.underlying4
  a4 := Try.isAgg4
  z4 := Try.sizeOf4
  v4 := Try.zeroValue4
  i4 := by kernel_rfl
  t9 := Try.underlying9
  a9 := Try.isAgg9
  z9 := Try.sizeOf9
  v9 := Try.zeroValue9
  i9 := by kernel_rfl
  t21 := Try.underlying21
  a21 := Try.isAgg21
  z21 := Try.sizeOf21
  v21 := Try.zeroValue21
  i21 := by kernel_rfl
  t23 := Try.underlying120
  a23 := Try.isAgg120
  z23 := Try.sizeOf120
  v23 := Try.zeroValue120
  i23 := by kernel_rfl }
open Go.RowKit Go.Lib in
theorem Try.strings_ContainsFunc (g : Nat) (lb : Array Value) (eg : ∀ args w, (callFunc g args).run Try.prog w = .ok (.enter g args) w) (p : Nat → Bool) (s : ByteArray) (w : World) (hp : PredAt Try.prog g lb encR p w) :
    Calls Try.prog 78 #[.string s, .func (.func g) #[] lb] w fun e w' => e = .returned (.bool (decide (0 ≤ Lib.idxFunc p true s))) ∧ Below w.heap.size w w' := Any.strings_ContainsFunc Try.laysGw17 g lb eg p s w hp
def Try.lays206_ren : Go.Shelf.Ren := ⟨fun | 206 => 102 | n => n, fun | 9 => 9 | 4 => 4 | 3 => 3 | n => n, fun | n => n⟩
def Try.lays99_ren : Go.Shelf.Ren := ⟨fun | 99 => 98 | 206 => 102 | n => n, fun | 9 => 9 | 4 => 4 | 3 => 3 | n => n, fun | n => n⟩
theorem Try.lays99 : Go.Proofs.Lays.n99 Try.prog Try.lays99_ren := {
  mixed := by kernel_rfl
  f99 := Try.func98.trans (congrArg some (by kernel_rfl))
  f206 := Try.func102.trans (congrArg some (by kernel_rfl))
  t3 := Try.underlying3
  a3 := Try.isAgg3
  z3 := Try.sizeOf3
  v3 := Try.zeroValue3
  t4 := Try.underlying4
  a4 := Try.isAgg4
  z4 := Try.sizeOf4
  v4 := Try.zeroValue4
  t9 := Try.underlying9
  a9 := Try.isAgg9
  z9 := Try.sizeOf9
  v9 := Try.zeroValue9 }
open Go.RowKit Go.Lib in
theorem Try.strings_HasPrefix (s p : ByteArray) (w : World) :
    Calls Try.prog 98 #[.string s, .string p] w fun e w' => e = .returned (.bool (Lib.hasPrefix s.data.toList p.data.toList)) ∧ w' = w := Any.strings_HasPrefix Try.lays99 s p w
end Go.Proofs
set_option linter.unusedVariables false
set_option linter.unusedSimpArgs false
namespace Go.Proofs.Ytmhjhhlgdenlkaa.P
open Go.RowKit Go.Lib Go.Proofs.YtmhjhhlgdenlkaaW.PrintWords
def okByte (b : UInt8) : Bool := decide (32 ≤ b.toNat ∧ b.toNat ≤ 126)
def isShort (s : ByteArray) : Bool := decide (s.size ≤ 40) && s.data.toList.all okByte
def badRune (r : Nat) : Bool := decide (r < 32) || decide (126 < r)
theorem decode_ascii (s : ByteArray) (i : Nat) (h : (s.get! i).toNat < 128) : Utf8.decode s i = ((s.get! i).toNat, 1) := by
  unfold Utf8.decode
  simp [h]
theorem decode_other (s : ByteArray) (i : Nat) (h : ¬ (s.get! i).toNat < 128) : badRune (Utf8.decode s i).1 = true := by
  have hb := (s.get! i).toNat_lt
  unfold Utf8.decode badRune
  simp only [Nat.add_zero]
  have e : Utf8.runeError = 65533 := rfl
  split
  · contradiction
  · repeat' split
    all_goals simp_all
    all_goals omega
theorem get_toList (s : ByteArray) (i : Nat) (h : i < s.size) : s.get! i = s.data.toList[i]'(by simpa using h) := by
  have h2 : i < s.data.size := h
  simp [ByteArray.get!, h2]
  try exact getElem!_pos s.data i h2
theorem idx_bad (s : ByteArray) : ∀ (f i : Nat), s.size - i ≤ f → i ≤ s.size → ((0 ≤ Lib.idxFuncFrom badRune true s f i) ↔ (s.data.toList.drop i).all okByte = false) := by
  intro f
  induction f with
  | zero =>
    intro i h hi
    have : s.data.toList.drop i = [] := by
      apply List.drop_eq_nil_of_le
      simp
      have : s.data.size = s.size := rfl
      omega
    simp [Lib.idxFuncFrom, this]
  | succ f ih =>
    intro i h hi
    unfold Lib.idxFuncFrom
    by_cases hlt : i < s.size
    · rw [if_pos hlt]
      have hl : i < s.data.toList.length := by simpa using hlt
      rw [List.drop_eq_getElem_cons hl, List.all_cons, ← get_toList s i hlt]
      by_cases ha : (s.get! i).toNat < 128
      · rw [decode_ascii s i ha]
        by_cases hb : badRune (s.get! i).toNat = true
        · have : okByte (s.get! i) = false := by
            unfold badRune at hb; unfold okByte
            simp at hb ⊢
            omega
          simp [hb, this]
        · have h2 : okByte (s.get! i) = true := by
            unfold badRune at hb; unfold okByte
            simp at hb ⊢
            omega
          have := ih (i + 1) (by omega) (by omega)
          simpa [hb, h2] using this
      · have hb := decode_other s i ha
        have : okByte (s.get! i) = false := by
          unfold okByte
          simp
          omega
        simp [hb, this]
    · rw [if_neg hlt]
      have : s.data.toList.drop i = [] := by
        apply List.drop_eq_nil_of_le
        simp
        have : s.data.size = s.size := rfl
        omega
      simp [this]
theorem idx_short (s : ByteArray) : decide (0 ≤ Lib.idxFunc badRune true s) = !(s.data.toList.all okByte) := by
  have := idx_bad s s.size 0 (by omega) (by omega)
  rw [List.drop_zero] at this
  unfold Lib.idxFunc
  cases h : s.data.toList.all okByte <;> simp [h] at this ⊢ <;> omega
set_option maxHeartbeats 1000000 in
theorem plain_pred (w : World) : PredAt Try.prog 77 #[] encR badRune w := fun W r _ => by
  unfold FnGives
  by_cases h1 : r < 32 <;> by_cases h2 : 126 < r
  all_goals
    have z1 : (r : Int) < 32 ↔ r < 32 := by omega
    have z2 : (126 : Int) < (r : Int) ↔ 126 < r := by omega
    go_enter Try.func77, Try.ntmps77
    go_wp2
    all_goals first | (exfalso; omega) | (go_ret; exact ⟨by simp [badRune, h1, h2], 0, rfl⟩)
set_option maxHeartbeats 1000000 in
theorem Plain_calls (s : ByteArray) (m : Int) (w : World) :
    Calls Try.prog 66 #[.string s, .int .i64 m] w fun e w' => e = .returned (.bool (decide ((s.size : Int) ≤ m) && s.data.toList.all okByte)) ∧ Below w.heap.size w w' := by
  have hC := Try.strings_ContainsFunc 77 #[] (enters_of Try.func77 (by kernel_rfl) rfl) _ s w (plain_pred w)
  rw [idx_short] at hC
  obtain ⟨b, hb⟩ : ∃ b, s.data.toList.all okByte = b := ⟨_, rfl⟩
  rw [hb] at hC ⊢
  have hmf : ∀ (fn : Fn) (first cap : Array Value) (w : World), (Instr.makeFunc fn first cap).run Try.prog w = .ok (.func fn first cap) w := fun _ _ _ _ => rfl
  by_cases h : (s.size : Int) ≤ m
  · have hd : decide ((s.size : Int) ≤ m) = true := decide_eq_true h
    go_enter Try.func66, Try.ntmps66
    go_wp2_with (go_at_call 78; refine hC.mono ?_; rintro e w' ⟨rfl, hb1⟩)
    go_ret
    exact ⟨by simp [hd], hb1⟩
  · have hd : decide ((s.size : Int) ≤ m) = false := decide_eq_false h
    go_enter Try.func66, Try.ntmps66
    go_wp2
    go_ret
    exact ⟨by simp [hd], Below.refl _ _⟩
def json_Short.f (a0 : ByteArray) : Option Bool := some (isShort a0)
theorem json_Short.calls (a0 : ByteArray) (r : Bool) (w : World) (h : json_Short.f a0 = some r) :
    Calls Try.prog 52 #[.string a0] w fun e w' => e = .returned (.bool r) ∧ Below w.heap.size w w' := by
  obtain rfl := Option.some.inj h
  have hP := Plain_calls a0 40 w
  have e1 : (decide ((a0.size : Int) ≤ 40) && a0.data.toList.all okByte) = isShort a0 := by
    unfold isShort
    congr 1
    exact decide_eq_decide.2 (by omega)
  rw [e1] at hP
  obtain ⟨b, hb⟩ : ∃ b, isShort a0 = b := ⟨_, rfl⟩
  rw [hb] at hP ⊢
  go_enter Try.func52, Try.ntmps52
  go_wp2_with (go_at_call 66; refine hP.mono ?_; rintro e w' ⟨rfl, hb1⟩)
  go_ret
  exact ⟨rfl, hb1⟩
end Go.Proofs.Ytmhjhhlgdenlkaa.P
set_option linter.unusedVariables false
set_option linter.unusedSimpArgs false
namespace Go.Proofs.Ytmhjhhlgdenlkaa.P
open Go.RowKit Go.Lib Go.Proofs.YtmhjhhlgdenlkaaW.PrintWords
theorem ret_int {k : IntKind} {a b : Int} (h : a = b) : Ending.returned (.int k a) = .returned (.int k b) := by rw [h]
def isLetter (c : Int) : Bool := decide (97 ≤ c ∧ c ≤ 122) || decide (65 ≤ c ∧ c ≤ 90) || decide (c = 95)
def isDigit (c : Int) : Bool := decide (48 ≤ c ∧ c ≤ 57)
def isWord (c : Int) : Bool := isLetter c || isDigit c
set_option maxHeartbeats 1000000 in
theorem lex_letter (c : Int) (w : World) : Calls Try.prog 80 #[.int .u8 c] w fun e w' => e = .returned (.bool (isLetter c)) ∧ w = w' := by
  by_cases h1 : 97 ≤ c <;> by_cases h2 : c ≤ 122 <;> by_cases h3 : 65 ≤ c <;> by_cases h4 : c ≤ 90 <;> by_cases h5 : c = 95
  all_goals first | (exfalso; omega) | skip
  all_goals first
    | (subst h5; go_enter Try.func80, Try.ntmps80; go_wp2; go_ret; exact ⟨rfl, rfl⟩)
    | (have e5 : (c == 95) = false := by simpa using h5
       have hr : isLetter c = (decide (97 ≤ c ∧ c ≤ 122) || decide (65 ≤ c ∧ c ≤ 90) || decide (c = 95)) := rfl
       simp only [h1, h2, h3, h4, h5, and_true, true_and, and_false, false_and, decide_true, decide_false, Bool.or_true, Bool.true_or, Bool.or_false, Bool.false_or, decide_not] at hr
       rw [hr]
       clear hr
       go_enter Try.func80, Try.ntmps80
       go_wp2
       go_ret
       exact ⟨by simp_all, rfl⟩)
set_option maxHeartbeats 1000000 in
theorem lex_digit (c : Int) (w : World) : Calls Try.prog 95 #[.int .u8 c] w fun e w' => e = .returned (.bool (isDigit c)) ∧ w = w' := by
  by_cases h1 : 48 ≤ c <;> by_cases h2 : c ≤ 57
  all_goals first | (exfalso; omega) | skip
  all_goals
    have hr : isDigit c = decide (48 ≤ c ∧ c ≤ 57) := rfl
    simp only [h1, h2, and_true, true_and, and_false, false_and, decide_true, decide_false] at hr
    rw [hr]
    clear hr
    go_enter Try.func95, Try.ntmps95
    go_wp2
    go_ret
    exact ⟨by simp_all, rfl⟩
set_option maxHeartbeats 1000000 in
theorem json_digit_any (c : Int) (w : World) : Calls Try.prog 100 #[.int .u8 c] w fun e w' => e = .returned (.bool (isDigit c)) ∧ w = w' := by
  by_cases h1 : 48 ≤ c <;> by_cases h2 : c ≤ 57
  all_goals first | (exfalso; omega) | skip
  all_goals
    have hr : isDigit c = decide (48 ≤ c ∧ c ≤ 57) := rfl
    simp only [h1, h2, and_true, true_and, and_false, false_and, decide_true, decide_false] at hr
    rw [hr]
    clear hr
    go_enter Try.func100, Try.ntmps100
    go_wp2
    go_ret
    exact ⟨by simp_all, rfl⟩
set_option maxHeartbeats 1000000 in
theorem lex_wordc (c : Int) (w : World) : Calls Try.prog 94 #[.int .u8 c] w fun e w' => e = .returned (.bool (isWord c)) ∧ w = w' := by
  have c1 := lex_letter c
  have c2 := lex_digit c
  unfold isWord
  obtain ⟨b1, h1⟩ : ∃ b, isLetter c = b := ⟨_, rfl⟩
  obtain ⟨b2, h2⟩ : ∃ b, isDigit c = b := ⟨_, rfl⟩
  rw [h1, h2]
  rw [h1] at c1
  rw [h2] at c2
  have C1 := Lib.hid c1
  have C2 := Lib.hid c2
  clear c1 c2 h1 h2
  cases b1
  all_goals
    go_enter Try.func94, Try.ntmps94
    go_wp2_with (first | (go_at_call 80; refine (C1.out _).mono ?_; rintro e w' ⟨rfl, rfl⟩) | (go_at_call 95; refine (C2.out _).mono ?_; rintro e w' ⟨rfl, rfl⟩))
    go_ret
    exact ⟨by simp, rfl⟩
def runFrom (s : ByteArray) : Nat → Nat → Nat
  | 0, i => i
  | f + 1, i => if i < s.size then (if isWord (bt s i) then runFrom s f (i + 1) else i) else i
set_option maxHeartbeats 1000000 in
theorem lex_run (s : ByteArray) (hs : s.size ≤ 9223372036854775807) (w : World) : Calls Try.prog 93 #[.string s, .func (.func 94) #[] #[]] w fun e w' => e = .returned (.int .i64 (runFrom s s.size 0)) ∧ w = w' := by
  have hW := fun c => lex_wordc c w
  have HW := Lib.hid hW
  clear hW
  have eg : ∀ args w, (callFunc 94 args).run Try.prog w = .ok (.enter 94 args) w := enters_of Try.func94 (by kernel_rfl) rfl
  go_enter Try.func93, Try.ntmps93
  go_wp2
  go_loop [5] (fun i => ∃ k f : Nat, k ≤ s.size ∧ f + k = s.size ∧ i = .int .i64 k ∧ Aside0 (runFrom s f k = runFrom s s.size 0)) (fun i => s.size - (intOf i).toNat)
  case atStart => exact ⟨0, s.size, Nat.zero_le _, rfl, rfl, ⟨rfl⟩⟩
  case round =>
    obtain ⟨k, f, hk, hf, rfl, hR⟩ := hrel
    by_cases hlt : k < s.size
    · obtain ⟨f, rfl⟩ : ∃ m, f = m + 1 := ⟨f - 1, by omega⟩
      have hR' := hR.out
      simp only [runFrom, hlt, if_true] at hR'
      have e1 := bt_at s (k : Int) (by simpa using hlt)
      obtain ⟨c, hc⟩ : ∃ c : Int, bt s k = c := ⟨_, rfl⟩
      rw [hc] at e1 hR'
      simp only [Int.toNat_natCast] at e1
      obtain ⟨b, hb⟩ : ∃ b, isWord c = b := ⟨_, rfl⟩
      have hC := HW.out c
      rw [hb] at hC hR'
      have HC := Lib.hid hC
      have HF := Lib.hid hf
      have hRR := Aside0.mk hR'
      clear hC hR hb hc hf hR'
      cases b
      · go_wp2_with (go_at_call 94; refine HC.out.mono ?_; rintro e w' ⟨rfl, rfl⟩)
        go_ret
        have := hRR.out
        simp at this
        exact ⟨ret_int (by omega), rfl⟩
      · go_wp2_with (go_at_call 94; refine HC.out.mono ?_; rintro e w' ⟨rfl, rfl⟩)
        go_round
        case rel => exact ⟨k + 1, f, by omega, by have := HF.out; omega, by go_num, ⟨by have := hRR.out; simpa using this⟩⟩
        case measure => simp [intOf]; omega
    · go_wp2
      go_ret
      have := hR.out
      obtain rfl : f = 0 := by omega
      simp only [runFrom] at this
      exact ⟨ret_int (by omega), rfl⟩
end Go.Proofs.Ytmhjhhlgdenlkaa.P
set_option linter.unusedVariables false
set_option linter.unusedSimpArgs false
namespace Go.Proofs.Ytmhjhhlgdenlkaa.P
open Go.RowKit Go.Lib Go.Proofs.YtmhjhhlgdenlkaaW.PrintWords
def Num3 (w : World) (e : Ending) (w' : World) : Prop := ∃ (n k : Int) (b : Bool), e = .returned (.tuple #[.int .i64 n, .int .i64 k, .bool b]) ∧ w = w'
theorem num3_mk {w : World} (n k : Int) (b : Bool) : Num3 w (.returned (.tuple #[.int .i64 n, .int .i64 k, .bool b])) w := ⟨n, k, b, rfl, rfl⟩
theorem hasPrefix_size (s : ByteArray) (c : UInt8) (h : Lib.hasPrefix s.data.toList [c] = true) : 1 ≤ s.size := by
  rcases Nat.eq_zero_or_pos s.size with h0 | h0
  · have : s.data.toList = [] := List.eq_nil_of_length_eq_zero (by simpa using h0)
    rw [this] at h
    simp [Lib.hasPrefix] at h
  · omega
set_option maxHeartbeats 4000000 in
set_option maxRecDepth 100000 in
theorem json_Number_any (s : ByteArray) (hs : s.size ≤ 9223372036854775800) (w : World) : Calls Try.prog 96 #[.string s] w (Num3 w) := by
  obtain ⟨P, hP⟩ : ∃ P, Lib.hasPrefix s.data.toList [45] = P := ⟨_, rfl⟩
  have hp : Calls Try.prog 98 #[.string s, .string ⟨#[45]⟩] w fun e w' => e = .returned (.bool P) ∧ w = w' := by
    have := Try.strings_HasPrefix s ⟨#[45]⟩ w
    refine this.mono ?_
    rintro e w' ⟨rfl, h⟩
    exact ⟨by rw [← hP], h.symm⟩
  have h1 : P = true → 1 ≤ s.size := fun h => hasPrefix_size s 45 (by rw [hP, h])
  clear hP
  have HP := Lib.hid hp
  clear hp
  have hD := fun c => json_digit_any c w
  have HD := Lib.hid hD
  clear hD
  obtain ⟨st, hst⟩ : ∃ st : Nat, st = (if P then 1 else 0) := ⟨_, rfl⟩
  have HS := Lib.hid hst
  clear hst
  cases P
  · clear h1
    clear HS
    go_enter Try.func96, Try.ntmps96
    go_wp2_with (go_at_call 98; refine HP.out.mono ?_; rintro e w' ⟨rfl, rfl⟩)
    go_loop [2, 3] (fun n k => ∃ (a : Int) (j : Nat), 0 ≤ a ∧ a ≤ 10737418500 ∧ j ≤ s.size ∧ n = .int .i64 a ∧ k = .int .i64 j) (fun _ k => s.size - (intOf k).toNat)
    case atStart => exact ⟨0, 0, by omega, by omega, by omega, rfl, rfl⟩
    case round =>
      obtain ⟨a, j, ha0, ha1, hj, rfl, rfl⟩ := hrel
      by_cases hlt : j < s.size
      · have e1 := bt_at s (j : Int) (by simpa using hlt)
        have hr := bt_range s (j : Int)
        obtain ⟨c, hc⟩ : ∃ c : Int, bt s j = c := ⟨_, rfl⟩
        rw [hc] at e1 hr
        simp only [Int.toNat_natCast] at e1
        obtain ⟨hr0, hr1⟩ := hr
        obtain ⟨b, hb⟩ : ∃ b, isDigit c = b := ⟨_, rfl⟩
        have hC := HD.out c
        rw [hb] at hC
        have HC := Lib.hid hC
        clear hC hb hc
        cases b
        · go_wp2_with (go_at_call 100; refine HC.out.mono ?_; rintro e w' ⟨rfl, rfl⟩)
          all_goals (go_ret3; exact num3_mk _ _ _)
        · by_cases hm : a ≤ 1073741824
          all_goals
            go_wp2_with (go_at_call 100; refine HC.out.mono ?_; rintro e w' ⟨rfl, rfl⟩)
            go_round
            case rel => exact ⟨_, j + 1, by omega, by omega, by omega, rfl, by go_num⟩
            case measure => simp [intOf]; omega
      · go_wp2
        all_goals (go_ret3; exact num3_mk _ _ _)
  · have h1' := h1 rfl
    clear h1 HS
    go_enter Try.func96, Try.ntmps96
    go_wp2_with (go_at_call 98; refine HP.out.mono ?_; rintro e w' ⟨rfl, rfl⟩)
    go_loop [2, 3] (fun n k => ∃ (a : Int) (j : Nat), 0 ≤ a ∧ a ≤ 10737418500 ∧ 1 ≤ j ∧ j ≤ s.size ∧ n = .int .i64 a ∧ k = .int .i64 j) (fun _ k => s.size - (intOf k).toNat)
    case atStart => exact ⟨0, 1, by omega, by omega, by omega, by omega, rfl, rfl⟩
    case round =>
      obtain ⟨a, j, ha0, ha1, hj1, hj, rfl, rfl⟩ := hrel
      by_cases hlt : j < s.size
      · have e1 := bt_at s (j : Int) (by simpa using hlt)
        have hr := bt_range s (j : Int)
        obtain ⟨c, hc⟩ : ∃ c : Int, bt s j = c := ⟨_, rfl⟩
        rw [hc] at e1 hr
        simp only [Int.toNat_natCast] at e1
        obtain ⟨hr0, hr1⟩ := hr
        obtain ⟨b, hb⟩ : ∃ b, isDigit c = b := ⟨_, rfl⟩
        have hC := HD.out c
        rw [hb] at hC
        have HC := Lib.hid hC
        clear hC hb hc
        cases b
        · go_wp2_with (go_at_call 100; refine HC.out.mono ?_; rintro e w' ⟨rfl, rfl⟩)
          all_goals (go_ret3; exact num3_mk _ _ _)
        · by_cases hm : a ≤ 1073741824
          all_goals
            go_wp2_with (go_at_call 100; refine HC.out.mono ?_; rintro e w' ⟨rfl, rfl⟩)
            go_round
            case rel => exact ⟨_, j + 1, by omega, by omega, by omega, by omega, rfl, by go_num⟩
            case measure => simp [intOf]; omega
      · go_wp2
        all_goals (go_ret3; exact num3_mk _ _ _)
end Go.Proofs.Ytmhjhhlgdenlkaa.P
set_option linter.unusedVariables false
set_option linter.unusedSimpArgs false
namespace Go.Proofs.Ytmhjhhlgdenlkaa.P
open Go.RowKit Go.Lib Go.Proofs.YtmhjhhlgdenlkaaW.PrintWords
def Str3 (w : World) (e : Ending) (w' : World) : Prop := ∃ (t : ByteArray) (k : Int) (b : Bool), e = .returned (.tuple #[.string t, .int .i64 k, .bool b]) ∧ Below w.heap.size w w'
theorem str3_mk {w w' : World} (t : ByteArray) (k : Int) (b : Bool) (h : Below w.heap.size w w') : Str3 w (.returned (.tuple #[.string t, .int .i64 k, .bool b])) w' := ⟨t, k, b, rfl, h⟩
theorem byte_cell (c : Int) (h0 : 0 ≤ c) (h1 : c ≤ 255) : ([.int .u8 c] : List Value) = Lib.byteCells [UInt8.ofNat c.toNat] := by
  have : (UInt8.ofNat c.toNat).toNat = c.toNat := by rw [UInt8.toNat_ofNat']; exact Nat.mod_eq_of_lt (by omega)
  simp [Lib.byteCells, this]
  omega
set_option maxHeartbeats 4000000 in
set_option maxRecDepth 100000 in
theorem json_String_any (s : ByteArray) (hs : s.size ≤ 140737488351232) (w : World) : Calls Try.prog 97 #[.string s] w (Str3 w) := by
  have hI0 : Lib.IsBuilder 102 5 w.heap.size w.heap.size (Lib.byteCells []) (w.alloc (.cells #[.pointer none, .slice none 0 0] 102)) := Lib.fresh_isBuilder 102 5 w
  have hB0 : Below w.heap.size w (w.alloc (.cells #[.pointer none, .slice none 0 0] 102)) := (Below.refl _ _).alloc (Nat.le_refl _) _
  go_enter Try.func97, Try.ntmps97
  go_wp2
  go_loopw [6] (fun i wr => ∃ (k : Nat) (L : List UInt8), 1 ≤ k ∧ k ≤ s.size + 1 ∧ L.length ≤ k ∧ i = .int .i64 k ∧ Lib.IsBuilder 102 5 w.heap.size w.heap.size (Lib.byteCells L) wr ∧ Below w.heap.size w wr) (fun i _ => s.size + 1 - (intOf i).toNat)
  case atStart => exact ⟨1, [], by omega, by omega, by simp, rfl, hI0, hB0⟩
  case round =>
    clear hI0 hB0
    obtain ⟨k, L, hk1, hk, hL, rfl, hib, hbel⟩ := hrel
    have hBw := hbel.size
    by_cases hlt : k < s.size
    · have e1 := bt_at s (k : Int) (by simpa using hlt)
      have hr := bt_range s (k : Int)
      obtain ⟨c, hc⟩ : ∃ c : Int, bt s k = c := ⟨_, rfl⟩
      rw [hc] at e1 hr
      simp only [Int.toNat_natCast] at e1
      obtain ⟨hr0, hr1⟩ := hr
      clear hc
      have hS := Try.Builder_String_any w.heap.size w.heap.size L wr hib hBw
      have hW := fun (d : Int) => Writer.WriteByte Writer.bt161 w.heap.size w.heap.size (Lib.byteCells L) d wr hib (by rw [Lib.byteCells_length]; omega) hBw
      have HS := Lib.hid hS
      have HW := Lib.hid hW
      have HI := Lib.hid hib
      clear hS hW hib
      by_cases hq : c = 34
      · have hq' : (c == 34) = true := by simpa using hq
        clear hq
        go_wp2_with fail
        refine HS.out.mono ?_
        rintro e w1 ⟨rfl, hb1⟩
        go_wp2
        go_ret3
        exact str3_mk _ _ _ (hbel.trans hb1)
      · have hq' : (c == 34) = false := by simpa using hq
        clear hq
        by_cases hlo : c < 32
        · go_wp2
          go_ret3
          exact str3_mk _ _ _ hbel
        · by_cases hhi : 126 < c
          · go_wp2
            go_ret3
            exact str3_mk _ _ _ hbel
          · by_cases he : c = 92
            · have he' : (c == 92) = true := by simpa using he
              clear he
              by_cases hlt2 : k + 1 < s.size
              · have e2 := bt_at s ((k + 1 : Nat) : Int) (by simpa using hlt2)
                have hr2 := bt_range s ((k + 1 : Nat) : Int)
                obtain ⟨d, hd⟩ : ∃ d : Int, bt s ((k + 1 : Nat) : Int) = d := ⟨_, rfl⟩
                rw [hd] at e2 hr2
                simp only [Int.toNat_natCast] at e2
                obtain ⟨hs0, hs1⟩ := hr2
                clear hd
                have hge : ¬ (s.size : Int) ≤ (k : Int) + 1 := by omega
                have hcell := byte_cell d hs0 hs1
                have HX := Lib.hid hcell
                clear hcell
                by_cases hd : d = 34 ∨ d = 92
                · have g : ((d != 34) && (d != 92)) = false := by
                    rcases hd with h | h <;> simp [h]
                  have g1 : (d != 34) = true ∨ (d != 34) = false := by cases (d != 34) <;> simp
                  rcases g1 with g1 | g1
                  all_goals
                    simp only [g1, Bool.true_and, Bool.false_and] at g
                    clear hd
                    go_wp2_with fail
                    refine (HW.out _).mono ?_
                    rintro e w1 ⟨rfl, hb1, hbel1, _⟩
                    have HB1 := Lib.hid hb1
                    clear hb1
                    go_wp2
                    go_roundw
                    case rel =>
                      refine ⟨k + 2, L ++ [UInt8.ofNat d.toNat], by omega, by omega, by simp; omega, by go_num, .inr ?_, hbel.trans hbel1⟩
                      rw [Lib.byteCells_append, ← HX.out]
                      exact HB1.out
                    case measure => simp [intOf]; omega
                · have g1 : (d != 34) = true := by simp; omega
                  have g2 : (d != 92) = true := by simp; omega
                  clear hd
                  go_wp2
                  go_ret3
                  exact str3_mk _ _ _ hbel
              · have hge : (s.size : Int) ≤ (k : Int) + 1 := by omega
                go_wp2
                go_ret3
                exact str3_mk _ _ _ hbel
            · have he' : (c == 92) = false := by simpa using he
              clear he
              have hcell := byte_cell c hr0 hr1
              have HX := Lib.hid hcell
              clear hcell
              go_wp2_with fail
              refine (HW.out _).mono ?_
              rintro e w1 ⟨rfl, hb1, hbel1, _⟩
              have HB1 := Lib.hid hb1
              clear hb1
              go_wp2
              go_roundw
              case rel =>
                refine ⟨k + 1, L ++ [UInt8.ofNat c.toNat], by omega, by omega, by simp; omega, by go_num, .inr ?_, hbel.trans hbel1⟩
                rw [Lib.byteCells_append, ← HX.out]
                exact HB1.out
              case measure => simp [intOf]; omega
    · go_wp2
      go_ret3
      exact str3_mk _ _ _ hbel
end Go.Proofs.Ytmhjhhlgdenlkaa.P
set_option linter.unusedVariables false
set_option linter.unusedSimpArgs false
namespace Go.Proofs.Ytmhjhhlgdenlkaa.P
open Go.RowKit Go.Lib Go.Proofs.YtmhjhhlgdenlkaaW.PrintWords
def SzAny (w : World) (e : Ending) (w' : World) : Prop := ∃ n : Int, e = .returned (.int .i64 n) ∧ Below w.heap.size w w'
theorem sz_mk {w w' : World} (n : Int) (h : Below w.heap.size w w') : SzAny w (.returned (.int .i64 n)) w' := ⟨n, rfl, h⟩
def sizeOf' (s : ByteArray) : Nat := if 12 < runFrom s s.size 0 then 0 else runFrom s s.size 0
theorem runFrom_le (s : ByteArray) : ∀ f i, i + f ≤ s.size → i ≤ runFrom s f i ∧ runFrom s f i ≤ i + f := by
  intro f
  induction f with
  | zero => intro i h; simp [runFrom]
  | succ f ih =>
    intro i h
    have := ih (i + 1) (by omega)
    simp only [runFrom]
    split
    · split <;> omega
    · omega
set_option maxHeartbeats 4000000 in
theorem lex_size_letter (s : ByteArray) (hs : s.size ≤ 140737488351232) (h0 : 0 < s.size) (hl : isLetter (bt s 0) = true) (w : World) : Calls Try.prog 89 #[.string s] w fun e w' => e = .returned (.int .i64 (sizeOf' s)) ∧ w = w' := by
  have e1 := bt_at s 0 (by simpa using h0)
  simp only [Int.toNat_zero] at e1
  obtain ⟨c, hc⟩ : ∃ c : Int, bt s 0 = c := ⟨_, rfl⟩
  rw [hc] at e1 hl
  have hL := lex_letter c w
  rw [hl] at hL
  have hR := lex_run s (by omega) w
  have hle := (runFrom_le s s.size 0 (by omega)).2
  have hz : sizeOf' s = if 12 < runFrom s s.size 0 then 0 else runFrom s s.size 0 := rfl
  obtain ⟨n, hn⟩ : ∃ n, runFrom s s.size 0 = n := ⟨_, rfl⟩
  rw [hn] at hR hle hz
  rw [hz]
  have HL := Lib.hid hL
  have HR := Lib.hid hR
  clear hL hR hc hl hn hz
  by_cases h12 : 12 < n
  · have h12' : (12 : Int) < (n : Int) := by omega
    rw [if_pos h12]
    clear h12
    go_enter Try.func89, Try.ntmps89
    go_wp2_with (first | (go_at_call 80; refine HL.out.mono ?_; rintro e w' ⟨rfl, rfl⟩) | (go_at_call 93; refine HR.out.mono ?_; rintro e w' ⟨rfl, rfl⟩))
    go_ret
    exact ⟨rfl, rfl⟩
  · have h12' : ¬ (12 : Int) < (n : Int) := by omega
    rw [if_neg h12]
    clear h12
    go_enter Try.func89, Try.ntmps89
    go_wp2_with (first | (go_at_call 80; refine HL.out.mono ?_; rintro e w' ⟨rfl, rfl⟩) | (go_at_call 93; refine HR.out.mono ?_; rintro e w' ⟨rfl, rfl⟩))
    go_ret
    exact ⟨rfl, rfl⟩
set_option maxHeartbeats 4000000 in
set_option maxRecDepth 100000 in
theorem lex_size_other (s : ByteArray) (hs : s.size ≤ 140737488351232) (h0 : 0 < s.size) (hl : isLetter (bt s 0) = false) (w : World) : Calls Try.prog 89 #[.string s] w (SzAny w) := by
  have e1 := bt_at s 0 (by simpa using h0)
  simp only [Int.toNat_zero] at e1
  obtain ⟨c, hc⟩ : ∃ c : Int, bt s 0 = c := ⟨_, rfl⟩
  rw [hc] at e1 hl
  have hL := lex_letter c w
  rw [hl] at hL
  have hD := lex_digit c w
  obtain ⟨d, hd⟩ : ∃ d, isDigit c = d := ⟨_, rfl⟩
  rw [hd] at hD
  have hNum := json_Number_any s (by omega) w
  have hStr := json_String_any s hs w
  have hPre : ∃ b, Calls Try.prog 98 #[.string s, .string ⟨#[46, 46, 46]⟩] w fun e w' => e = .returned (.bool b) ∧ w = w' :=
    ⟨_, (Try.strings_HasPrefix s ⟨#[46, 46, 46]⟩ w).mono fun e w' ⟨he, hw⟩ => ⟨he, hw.symm⟩⟩
  have hIdx : ∃ n : Int, Calls Try.prog 99 #[.string ⟨#[33, 36, 40, 41, 58, 61, 64, 91, 93, 123, 125]⟩, .int .u8 c] w fun e w' => e = .returned (.int .i64 n) ∧ w = w' :=
    ⟨_, (Try.strings_IndexByte ⟨#[33, 36, 40, 41, 58, 61, 64, 91, 93, 123, 125]⟩ c w).mono fun e w' ⟨he, hw⟩ => ⟨he, hw.symm⟩⟩
  obtain ⟨b, hPre⟩ := hPre
  obtain ⟨n, hIdx⟩ := hIdx
  have HL := Lib.hid hL
  have HD := Lib.hid hD
  have HN := Lib.hid hNum
  have HS := Lib.hid hStr
  have HP := Lib.hid hPre
  have HI := Lib.hid hIdx
  clear hL hD hNum hStr hPre hIdx hc hl hd
  have hB := Below.refl w.heap.size w
  by_cases hm : c = 45
  · have hm1 : (c == 45) = true := by simpa using hm
    clear hm
    go_enter Try.func89, Try.ntmps89
    go_wp2_with (first | (go_at_call 80; refine HL.out.mono ?_; rintro e w' ⟨rfl, rfl⟩) | (go_at_call 96; refine HN.out.mono ?_; rintro e w' ⟨a, k, ok, rfl, rfl⟩))
    all_goals (go_ret; exact sz_mk _ (Below.refl _ _))
  · have hm1 : (c == 45) = false := by simpa using hm
    clear hm
    cases d
    · by_cases hq : c = 34
      · have hq1 : (c == 34) = true := by simpa using hq
        clear hq
        go_enter Try.func89, Try.ntmps89
        go_wp2_with (first | (go_at_call 80; refine HL.out.mono ?_; rintro e w' ⟨rfl, rfl⟩) | (go_at_call 95; refine HD.out.mono ?_; rintro e w' ⟨rfl, rfl⟩))
        refine HS.out.mono ?_
        rintro e w1 ⟨t, k, ok, rfl, hb1⟩
        go_wp2
        all_goals (go_ret; exact sz_mk _ hb1)
      · have hq1 : (c == 34) = false := by simpa using hq
        clear hq
        cases b
        all_goals
          go_enter Try.func89, Try.ntmps89
          go_wp2_with (first | (go_at_call 80; refine HL.out.mono ?_; rintro e w' ⟨rfl, rfl⟩) | (go_at_call 95; refine HD.out.mono ?_; rintro e w' ⟨rfl, rfl⟩) | (go_at_call 98; refine HP.out.mono ?_; rintro e w' ⟨rfl, rfl⟩) | (go_at_call 99; refine HI.out.mono ?_; rintro e w' ⟨rfl, rfl⟩))
          all_goals (go_ret; exact sz_mk _ (Below.refl _ _))
    · go_enter Try.func89, Try.ntmps89
      go_wp2_with (first | (go_at_call 80; refine HL.out.mono ?_; rintro e w' ⟨rfl, rfl⟩) | (go_at_call 95; refine HD.out.mono ?_; rintro e w' ⟨rfl, rfl⟩) | (go_at_call 96; refine HN.out.mono ?_; rintro e w' ⟨a, k, ok, rfl, rfl⟩))
      all_goals (go_ret; exact sz_mk _ (Below.refl _ _))
theorem ne_empty {s : ByteArray} (h : 0 < s.size) : s.toList.isEmpty = false ∧ ¬ s.toList = [] := by
  have : ¬ s.toList = [] := by
    rw [Lib.toList_data]
    intro h2
    have h3 : s.data.size = 0 := by
      have := congrArg List.length h2
      rw [Array.length_toList] at this
      exact this
    have h4 : s.data.size = s.size := rfl
    omega
  exact ⟨by cases h2 : s.toList.isEmpty <;> simp_all, this⟩
set_option maxHeartbeats 4000000 in
theorem lex_one_letter (s : ByteArray) (hs : s.size ≤ 140737488351232) (h0 : 0 < s.size) (hl : isLetter (bt s 0) = true) (w : World) : Calls Try.prog 79 #[.string s] w fun e w' => e = .returned (.bool (decide (sizeOf' s = s.size))) ∧ w = w' := by
  have hS := lex_size_letter s hs h0 hl w
  obtain ⟨hn1, hn2⟩ := ne_empty h0
  obtain ⟨n, hn⟩ : ∃ n, sizeOf' s = n := ⟨_, rfl⟩
  rw [hn] at hS ⊢
  have HS := Lib.hid hS
  clear hS hn hl
  by_cases he : n = s.size
  · have e1 : (((n : Nat) : Int) == (s.size : Int)) = true := by simp [he]
    have e2 : (n == s.size) = true := by simp [he]
    have e3 : decide (n = s.size) = true := by simp [he]
    rw [e3]
    clear he e3
    go_enter Try.func79, Try.ntmps79
    go_wp2_with (go_at_call 89; refine HS.out.mono ?_; rintro e w' ⟨rfl, rfl⟩)
    go_ret
    exact ⟨by simp_all, rfl⟩
  · have e1 : (((n : Nat) : Int) == (s.size : Int)) = false := by simp; omega
    have e2 : (n == s.size) = false := by simp [he]
    have e3 : decide (n = s.size) = false := by simp [he]
    rw [e3]
    clear he e3
    go_enter Try.func79, Try.ntmps79
    go_wp2_with (go_at_call 89; refine HS.out.mono ?_; rintro e w' ⟨rfl, rfl⟩)
    go_ret
    exact ⟨by simp_all, rfl⟩
def BoolAny (w : World) (e : Ending) (w' : World) : Prop := ∃ n : Bool, e = .returned (.bool n) ∧ Below w.heap.size w w'
set_option maxHeartbeats 4000000 in
theorem lex_one_other (s : ByteArray) (hs : s.size ≤ 140737488351232) (h0 : 0 < s.size) (hl : isLetter (bt s 0) = false) (w : World) : Calls Try.prog 79 #[.string s] w (BoolAny w) := by
  have hS := lex_size_other s hs h0 hl w
  obtain ⟨hn1, hn2⟩ := ne_empty h0
  have HS := Lib.hid hS
  clear hS hl
  go_enter Try.func79, Try.ntmps79
  go_wp2_with (go_at_call 89; refine HS.out.mono ?_; rintro e w1 ⟨n, rfl, hb⟩)
  go_ret
  exact ⟨_, rfl, hb⟩
def isName (s : ByteArray) : Bool := decide (0 < s.size) && decide (s.size ≤ 12) && isLetter (bt s 0) && decide (runFrom s s.size 0 = s.size)
theorem isName_letter (s : ByteArray) (h0 : 0 < s.size) (hl : isLetter (bt s 0) = true) : isName s = decide (sizeOf' s = s.size) := by
  have hle := (runFrom_le s s.size 0 (by omega)).2
  unfold isName sizeOf'
  simp only [h0, hl, decide_true, Bool.true_and, Bool.and_true]
  by_cases h : 12 < runFrom s s.size 0
  · rw [if_pos h]
    have : decide (0 = s.size) = false := decide_eq_false (by omega)
    rw [this]
    by_cases h2 : s.size ≤ 12
    · have : decide (runFrom s s.size 0 = s.size) = false := decide_eq_false (by omega)
      simp [this]
    · simp [h2]
  · rw [if_neg h]
    by_cases h2 : runFrom s s.size 0 = s.size
    · simp [h2]; omega
    · simp [h2]
def lex_Name.f (a0 : ByteArray) : Option Bool := if a0.size ≤ 140737488351232 then some (isName a0) else none
set_option maxHeartbeats 4000000 in
theorem lex_Name.calls (a0 : ByteArray) (r : Bool) (w : World) (h : lex_Name.f a0 = some r) :
    Calls Try.prog 67 #[.string a0] w fun e w' => e = .returned (.bool r) ∧ Below w.heap.size w w' := by
  unfold lex_Name.f at h
  by_cases hs : a0.size ≤ 140737488351232
  case neg => rw [if_neg hs] at h; simp at h
  rw [if_pos hs] at h
  obtain rfl := Option.some.inj h
  clear h
  rcases Nat.eq_zero_or_pos a0.size with h0 | h0
  · have he : a0.toList = [] := by
      rw [Lib.toList_data]
      exact List.eq_nil_of_length_eq_zero (by simpa using h0)
    have h1 : isName a0 = false := by unfold isName; simp [h0]
    have h2 : a0.toList.isEmpty = true := by rw [he]; rfl
    have c1 : Calls Try.prog 79 #[.string a0] w fun e w' => e = .returned (.bool false) ∧ w = w' := by
      clear h0 h1 hs
      go_enter Try.func79, Try.ntmps79
      go_wp2
      go_ret
      exact ⟨by simp_all, rfl⟩
    rw [h1]
    have C := Lib.hid c1
    clear c1 he h1 h2 h0 hs
    go_enter Try.func67, Try.ntmps67
    go_wp2_with (go_at_call 79; refine C.out.mono ?_; rintro e w' ⟨rfl, rfl⟩)
    go_ret
    exact ⟨rfl, Below.refl _ _⟩
  · have e1 := bt_at a0 0 (by simpa using h0)
    simp only [Int.toNat_zero] at e1
    obtain ⟨l, hl⟩ : ∃ l, isLetter (bt a0 0) = l := ⟨_, rfl⟩
    have hL := fun w => lex_letter (bt a0 0) w
    rw [hl] at hL
    cases l
    · have hO := lex_one_other a0 hs h0 hl w
      have h1 : isName a0 = false := by unfold isName; simp [hl]
      rw [h1]
      obtain ⟨c, hc⟩ : ∃ c : Int, bt a0 0 = c := ⟨_, rfl⟩
      rw [hc] at e1 hL
      have HL := Lib.hid hL
      have HO := Lib.hid hO
      clear hL hO h1 hc hl hs
      go_enter Try.func67, Try.ntmps67
      go_wp2_with fail
      refine HO.out.mono ?_
      rintro e w1 ⟨b, rfl, hb⟩
      cases b
      · go_wp2
        go_ret
        exact ⟨rfl, hb⟩
      · go_wp2_with (go_at_call 80; refine (HL.out _).mono ?_; rintro e w' ⟨rfl, rfl⟩)
        go_ret
        exact ⟨rfl, hb⟩
    · have hO := lex_one_letter a0 hs h0 hl w
      rw [isName_letter a0 h0 hl]
      obtain ⟨b, hb⟩ : ∃ b, decide (sizeOf' a0 = a0.size) = b := ⟨_, rfl⟩
      rw [hb] at hO ⊢
      obtain ⟨c, hc⟩ : ∃ c : Int, bt a0 0 = c := ⟨_, rfl⟩
      rw [hc] at e1 hL
      have HL := Lib.hid hL
      have HO := Lib.hid hO
      clear hL hO hc hl hs hb
      cases b
      all_goals
        go_enter Try.func67, Try.ntmps67
        go_wp2_with (first | (go_at_call 79; refine HO.out.mono ?_; rintro e w' ⟨rfl, rfl⟩) | (go_at_call 80; refine (HL.out _).mono ?_; rintro e w' ⟨rfl, rfl⟩))
        go_ret
        exact ⟨rfl, Below.refl _ _⟩
end Go.Proofs.Ytmhjhhlgdenlkaa.P
set_option linter.unusedVariables false
set_option linter.unusedSimpArgs false
namespace Go.Proofs.Ytmhjhhlgdenlkaa.P
open Go.RowKit Go.Proofs.YtmhjhhlgdenlkaaW.PrintWords
def opA (n : Int) : List UInt8 := if n = 1 then [99, 114, 101, 100, 105, 116] else if n = 2 then [112, 117, 116] else if n = 3 then [98, 111, 111, 107] else [115, 101, 110, 100]
def opB (n : Int) : List UInt8 := if n = 1 then [100, 101, 98, 105, 116] else if n = 2 then [116, 97, 107, 101] else if n = 3 then [99, 97, 110, 99, 101, 108] else [114, 101, 99, 97, 108, 108]
def isPair (n : Int) (d u : ByteArray) : Bool := decide (d.toList = opA n ∧ u.toList = opB n) || decide (d.toList = opB n ∧ u.toList = opA n)
theorem op_ne (n : Int) : opA n ≠ opB n := by unfold opA opB; repeat' split
                                              all_goals decide
theorem index2 (a b s : ByteArray) : ∃ r, slices_Index_string_string.f 4 [a, b] s = some r ∧ (decide (r ≥ 0) = (decide (s.toList = a.toList) || decide (s.toList = b.toList))) := by
  unfold slices_Index_string_string.f
  have w1 : wrap64 1 = 1 := by unfold wrap64; omega
  have w2 : wrap64 (1 + 1) = 2 := by unfold wrap64; omega
  by_cases h1 : s.toList = a.toList
  · exact ⟨0, by simp [slices_Index_string_string.l0, rdOf, h1], by simp [h1]⟩
  · by_cases h2 : s.toList = b.toList
    · refine ⟨1, ?_, by simp [h2]⟩
      simp only [slices_Index_string_string.l0, rdOf, List.length_cons, List.length_nil]
      simp [h1, w1, h2]
      exact fun h => h1 (h2.trans h)
    · refine ⟨-1, ?_, by simp [h1, h2]⟩
      simp only [slices_Index_string_string.l0, rdOf, List.length_cons, List.length_nil]
      simp [h1, w1, h2, show wrap64 2 = 2 from w2]
theorem contains2 (a b s : ByteArray) : slices_Contains_string_string.f 4 [a, b] s = some (decide (s.toList = a.toList) || decide (s.toList = b.toList)) := by
  obtain ⟨r, h1, h2⟩ := index2 a b s
  unfold slices_Contains_string_string.f
  rw [h1]
  simp only [Option.bind_some, h2]
theorem pair_some (n : Int) (d u : ByteArray) (h0 : 1 ≤ n) (h1 : n ≤ 4) : sdl_Pair.f 4 n d u = some (isPair n d u) := by
  have hO : ∃ a b : ByteArray, sdl_Ops.f n = some [a, b] ∧ a.toList = opA n ∧ b.toList = opB n := by
    have : n = 1 ∨ n = 2 ∨ n = 3 ∨ n = 4 := by omega
    rcases this with rfl | rfl | rfl | rfl
    all_goals exact ⟨_, _, rfl, by rw [Lib.toList_data]; rfl, by rw [Lib.toList_data]; rfl⟩
  obtain ⟨a, b, hO, ha, hb⟩ := hO
  have hne := op_ne n
  unfold sdl_Pair.f isPair
  rw [hO]
  simp only [Option.bind_some, contains2]
  rw [ha, hb]
  by_cases d1 : d.toList = opA n <;> by_cases d2 : d.toList = opB n <;> by_cases u1 : u.toList = opA n <;> by_cases u2 : u.toList = opB n
  all_goals first | exact absurd (d1.symm.trans d2) hne | exact absurd (u1.symm.trans u2) hne | skip
  all_goals simp [d1, d2, u1, u2, hne, hne.symm]
def okRest (x : S80) : Bool := decide (1 ≤ x.f1 ∧ x.f1 ≤ 4) && isPair x.f1 x.f2 x.f3 && isShort x.f4 && decide (-1073741824 ≤ x.f5 ∧ x.f5 ≤ 1073741824)
def okAt (l : List S80) (i : Nat) : Bool := isName (rd_T80 l i).f0 && !((l.take i).any fun y => y.f0.toList == (rd_T80 l i).f0.toList) && okRest (rd_T80 l i)
def okUpto (l : List S80) (k : Nat) : Bool := (List.range k).all (okAt l)
def okSteps (l : List S80) : Bool := decide (1 ≤ l.length ∧ l.length ≤ 5) && okUpto l l.length
theorem okUpto_succ (l : List S80) (k : Nat) : okUpto l (k + 1) = (okUpto l k && okAt l k) := by simp [okUpto, List.range_succ]
theorem okUpto_false (l : List S80) (k n : Nat) (hk : k < n) (h : okAt l k = false) : okUpto l n = false := by
  unfold okUpto
  rw [List.all_eq_false]
  exact ⟨k, by simpa using hk, by simp [h]⟩
set_option maxHeartbeats 1000000 in
theorem pred_As (B : Nat) (a : ByteArray) (w : World) (hB : B < w.heap.size) (hc : w.cell? ⟨B, 0, none⟩ = some (.string a)) :
    Pred80 69 #[.pointer (some ⟨B, 0, none⟩)] (fun y => y.f0.toList == a.toList) w := fun W x hb => by
  have hc' : W.cell? ⟨B, 0, none⟩ = some (.string a) := (hb.cell (p := ⟨B, 0, none⟩) hB).trans hc
  have hB' : B < W.heap.size := Nat.lt_of_lt_of_le hB hb.size
  have hc2 : ∀ o : Obj, (W.alloc o).cell? ⟨B, 0, none⟩ = some (.string a) := fun o => by
    rw [← hc']
    exact World.cell?_of_block (Lib.alloc_old W o B hB')
  have HC := Lib.hid hc2
  clear hc2 hc
  have h1 := HC.out (.cells #[.string x.f0, .int .i64 x.f1, .string x.f2, .string x.f3, .string x.f4, .int .i64 x.f5] 80 (0, 0))
  show Calls Try.prog 69 #[.agg #[.string x.f0, .int .i64 x.f1, .string x.f2, .string x.f3, .string x.f4, .int .i64 x.f5], .pointer (some ⟨B, 0, none⟩)] W _
  go_enter Try.func69, Try.ntmps69
  go_wp2
  go_ret
  exact ⟨rfl, hb.alloc hb.size _⟩
theorem ret_bool {a b : Bool} (h : a = b) : Ending.returned (.bool a) = .returned (.bool b) := by rw [h]
def plan_May.f (l0 : List S80) : Option Bool := if (l0.all fun x => decide (x.f0.size ≤ 140737488351232)) then some (okSteps l0) else none
set_option maxHeartbeats 8000000 in
set_option maxRecDepth 100000 in
theorem plan_May.calls (A0 : Option Addr) (c0 : Nat) (l0 : List S80) (r : Bool) (w : World) (hr0 : Kd.C k80 w A0 l0.length l0) (hc0 : l0.length ≤ c0) (h : plan_May.f l0 = some r) :
    Calls Try.prog 53 #[.slice A0 l0.length c0] w fun e w' => e = .returned (.bool r) ∧ Below w.heap.size w w' := by
  unfold plan_May.f at h
  by_cases hs : (l0.all fun x => decide (x.f0.size ≤ 140737488351232)) = true
  case neg => rw [if_neg hs] at h; simp at h
  rw [if_pos hs] at h
  obtain rfl := Option.some.inj h
  clear h
  have hm := hr0.2.1
  have HR := Lib.hid hr0
  have HS := Lib.hid hs
  clear hr0 hs
  have hmf : ∀ (fn : Fn) (first cap : Array Value) (w : World), (Instr.makeFunc fn first cap).run Try.prog w = .ok (.func fn first cap) w := fun _ _ _ _ => rfl
  go_enter Try.func53, Try.ntmps53
  go_wp2
  go_loopw [7] (fun i wr => ∃ k : Nat, k ≤ l0.length ∧ i = .int .i64 k ∧ Below w.heap.size w wr ∧ Aside0 (okUpto l0 k = true)) (fun i _ => l0.length - (intOf i).toNat)
  case atStart => exact ⟨0, Nat.zero_le _, rfl, Below.refl _ _, ⟨rfl⟩⟩
  case round =>
    obtain ⟨k, hk, rfl, hb, hU⟩ := hrel
    by_cases hlt : k < l0.length
    · obtain ⟨ad, e1, h0, h1, h2, h3, h4, h5⟩ := at_T80 HR.out (k : Int) (by omega) (by omega)
      cases e1
      have hat : okAt l0 k = (isName (rd_T80 l0 k).f0 && !((l0.take k).any fun y => y.f0.toList == (rd_T80 l0 k).f0.toList) && okRest (rd_T80 l0 k)) := rfl
      have hsz : (rd_T80 l0 k).f0.size ≤ 140737488351232 := by
        have := List.all_eq_true.1 HS.out (rd_T80 l0 k) (by simp [rd_T80, List.getD_eq_getElem?_getD, List.getElem?_eq_getElem hlt])
        simpa using this
      obtain ⟨x, hx⟩ : ∃ x, rd_T80 l0 k = x := ⟨_, rfl⟩
      rw [hx] at h0 h1 h2 h3 h4 h5 hat hsz
      clear hx
      replace h0 := (hb.cell (World.block_lt_of_cell? w _ h0)).trans h0
      replace h1 := (hb.cell (World.block_lt_of_cell? w _ h1)).trans h1
      replace h2 := (hb.cell (World.block_lt_of_cell? w _ h2)).trans h2
      replace h3 := (hb.cell (World.block_lt_of_cell? w _ h3)).trans h3
      replace h4 := (hb.cell (World.block_lt_of_cell? w _ h4)).trans h4
      replace h5 := (hb.cell (World.block_lt_of_cell? w _ h5)).trans h5
      simp only [Int.toNat_natCast] at h0 h1 h2 h3 h4 h5
      have hN := fun W => lex_Name.calls x.f0 (isName x.f0) W (by unfold lex_Name.f; rw [if_pos hsz])
      have HAT := Lib.hid hat
      clear hat hsz
      obtain ⟨nm, hnm⟩ : ∃ nm, isName x.f0 = nm := ⟨_, rfl⟩
      rw [hnm] at hN
      have HN := Lib.hid hN
      have HNM := Lib.hid hnm
      clear hN hnm
      have hNo : okAt l0 k = false → okSteps l0 = false := fun h => by unfold okSteps; rw [okUpto_false l0 k _ hlt h]; simp
      have HNO := Lib.hid hNo
      clear hNo
      go_wp2_with fail
      refine (HN.out _).mono ?_
      rintro e w1 ⟨rfl, hb1⟩
      have hbw1 : Below w.heap.size w w1 := (hb.alloc hb.size _).trans (hb1.mono (by have := hb.size; simp; omega))
      have B1 : w1.cell? ⟨wr.heap.size, 1, none⟩ = some (.int .i64 x.f1) := (hb1.cell (p := ⟨wr.heap.size, 1, none⟩) (by simp)).trans ((Lib.cell_of_heap (heap_alloc_new wr _) _).trans rfl)
      have B2 : w1.cell? ⟨wr.heap.size, 2, none⟩ = some (.string x.f2) := (hb1.cell (p := ⟨wr.heap.size, 2, none⟩) (by simp)).trans ((Lib.cell_of_heap (heap_alloc_new wr _) _).trans rfl)
      have B3 : w1.cell? ⟨wr.heap.size, 3, none⟩ = some (.string x.f3) := (hb1.cell (p := ⟨wr.heap.size, 3, none⟩) (by simp)).trans ((Lib.cell_of_heap (heap_alloc_new wr _) _).trans rfl)
      have B4 : w1.cell? ⟨wr.heap.size, 4, none⟩ = some (.string x.f4) := (hb1.cell (p := ⟨wr.heap.size, 4, none⟩) (by simp)).trans ((Lib.cell_of_heap (heap_alloc_new wr _) _).trans rfl)
      have B5 : w1.cell? ⟨wr.heap.size, 5, none⟩ = some (.int .i64 x.f5) := (hb1.cell (p := ⟨wr.heap.size, 5, none⟩) (by simp)).trans ((Lib.cell_of_heap (heap_alloc_new wr _) _).trans rfl)
      have B0 : w1.cell? ⟨wr.heap.size, 0, none⟩ = some (.string x.f0) := (hb1.cell (p := ⟨wr.heap.size, 0, none⟩) (by simp)).trans ((Lib.cell_of_heap (heap_alloc_new wr _) _).trans rfl)
      have hblt : wr.heap.size < w1.heap.size := by have := hb1.size; simp at this; omega
      clear hb1 h0 h1 h2 h3 h4 h5 hb
      cases nm
      · go_wp2
        go_ret
        exact ⟨ret_bool (by rw [HNO.out (by rw [HAT.out, HNM.out]; rfl)]), hbw1⟩
      · have hCF := containsFunc88 69 #[.pointer (some ⟨wr.heap.size, 0, none⟩)] (enters_of Try.func69 (by kernel_rfl) rfl) _ (some ad) c0 (l0.take k) w1
          (Kd.C_take (Kd.C_below HR.out hbw1) hk) (by rw [List.length_take]; omega) (pred_As wr.heap.size x.f0 w1 hblt B0)
        rw [show (l0.take k).length = k from by rw [List.length_take]; omega] at hCF
        obtain ⟨dp, hdp⟩ : ∃ dp, ((l0.take k).any fun y => y.f0.toList == x.f0.toList) = dp := ⟨_, rfl⟩
        rw [hdp] at hCF
        have HDP := Lib.hid hdp
        have HCF := Lib.hid hCF
        clear hdp hCF
        go_wp2_with fail
        refine HCF.out.mono ?_
        rintro e w2 ⟨rfl, hb2⟩
        replace B1 := (hb2.cell (p := ⟨wr.heap.size, 1, none⟩) hblt).trans B1
        replace B2 := (hb2.cell (p := ⟨wr.heap.size, 2, none⟩) hblt).trans B2
        replace B3 := (hb2.cell (p := ⟨wr.heap.size, 3, none⟩) hblt).trans B3
        replace B4 := (hb2.cell (p := ⟨wr.heap.size, 4, none⟩) hblt).trans B4
        replace B5 := (hb2.cell (p := ⟨wr.heap.size, 5, none⟩) hblt).trans B5
        replace hblt := Nat.lt_of_lt_of_le hblt hb2.size
        replace hbw1 := hbw1.trans (hb2.mono hbw1.size)
        clear hb2 B0 HCF
        cases dp
        case true =>
          go_wp2
          go_ret
          exact ⟨ret_bool (by rw [HNO.out (by rw [HAT.out, HNM.out, HDP.out]; rfl)]), hbw1⟩
        obtain ⟨sv, hsv⟩ : ∃ sv, decide (1 ≤ x.f1 ∧ x.f1 ≤ 4) = sv := ⟨_, rfl⟩
        have hSv := fun W => sdl_IsService.calls x.f1 sv W (by
          unfold sdl_IsService.f
          rw [← hsv]
          by_cases g1 : x.f1 ≥ 1
          · rw [if_pos g1]; congr 1; exact decide_eq_decide.2 ⟨fun h => ⟨g1, h⟩, fun h => h.2⟩
          · rw [if_neg g1]; congr 1; symm; exact decide_eq_false (fun h => g1 h.1))
        have HSV := Lib.hid hSv
        have HSVE := Lib.hid hsv
        clear hSv hsv
        go_wp2_with fail
        refine (HSV.out _).mono ?_
        rintro e w3 ⟨rfl, ⟨n3, rfl⟩⟩
        cases sv
        case false =>
          go_wp2
          go_ret
          exact ⟨ret_bool (by rw [HNO.out (by rw [HAT.out, HNM.out, HDP.out]; unfold okRest; rw [HSVE.out]; rfl)]), pw_below_drewN hbw1 _⟩
        obtain ⟨hs1, hs4⟩ := of_decide_eq_true HSVE.out
        obtain ⟨pr, hpr⟩ : ∃ pr, isPair x.f1 x.f2 x.f3 = pr := ⟨_, rfl⟩
        have hPr := fun W => sdl_Pair.calls 4 x.f1 x.f2 x.f3 pr W (by rw [pair_some _ _ _ hs1 hs4, hpr])
        have HPR := Lib.hid hPr
        have HPRE := Lib.hid hpr
        clear hPr hpr hs1 hs4
        go_wp2_with fail
        refine (HPR.out _).mono ?_
        rintro e w4 ⟨rfl, hb4⟩
        replace hb4 : Below w2.heap.size w2 w4 := (pw_below_drewN (Below.refl _ w2) n3).trans hb4
        replace B4 := (hb4.cell (p := ⟨wr.heap.size, 4, none⟩) hblt).trans B4
        replace B5 := (hb4.cell (p := ⟨wr.heap.size, 5, none⟩) hblt).trans B5
        replace hblt := Nat.lt_of_lt_of_le hblt hb4.size
        replace hbw1 := hbw1.trans (hb4.mono hbw1.size)
        clear hb4 B1 B2 B3
        cases pr
        case false =>
          go_wp2
          go_ret
          exact ⟨ret_bool (by rw [HNO.out (by rw [HAT.out, HNM.out, HDP.out]; unfold okRest; rw [HSVE.out, HPRE.out]; rfl)]), hbw1⟩
        obtain ⟨sh, hsh⟩ : ∃ sh, isShort x.f4 = sh := ⟨_, rfl⟩
        have hSh := fun W => json_Short.calls x.f4 sh W (by unfold json_Short.f; rw [hsh])
        have HSH := Lib.hid hSh
        have HSHE := Lib.hid hsh
        clear hSh hsh
        go_wp2_with fail
        refine (HSH.out _).mono ?_
        rintro e w5 ⟨rfl, hb5⟩
        replace B5 := (hb5.cell (p := ⟨wr.heap.size, 5, none⟩) hblt).trans B5
        replace hbw1 := hbw1.trans (hb5.mono hbw1.size)
        clear hb5 B4
        cases sh
        case false =>
          go_wp2
          go_ret
          exact ⟨ret_bool (by rw [HNO.out (by rw [HAT.out, HNM.out, HDP.out]; unfold okRest; rw [HSVE.out, HPRE.out, HSHE.out]; rfl)]), hbw1⟩
        obtain ⟨nu, hnu⟩ : ∃ nu, decide (-1073741824 ≤ x.f5 ∧ x.f5 ≤ 1073741824) = nu := ⟨_, rfl⟩
        have hNu := fun W => json_IsNum.calls x.f5 nu W (by
          unfold json_IsNum.f
          rw [← hnu]
          by_cases g1 : x.f5 ≥ -1073741824
          · rw [if_pos g1]; congr 1; exact decide_eq_decide.2 ⟨fun h => ⟨g1, h⟩, fun h => h.2⟩
          · rw [if_neg g1]; congr 1; symm; exact decide_eq_false (fun h => g1 h.1))
        have HNU := Lib.hid hNu
        have HNUE := Lib.hid hnu
        clear hNu hnu
        go_wp2_with fail
        refine (HNU.out _).mono ?_
        rintro e w6 ⟨rfl, ⟨n6, rfl⟩⟩
        cases nu
        case false =>
          go_wp2
          go_ret
          exact ⟨ret_bool (by rw [HNO.out (by rw [HAT.out, HNM.out, HDP.out]; unfold okRest; rw [HSVE.out, HPRE.out, HSHE.out, HNUE.out]; rfl)]), pw_below_drewN hbw1 _⟩
        go_wp2
        go_roundw
        case rel => exact ⟨k + 1, by omega, by go_num, pw_below_drewN hbw1 _, ⟨by rw [okUpto_succ, hU.out, HAT.out, HNM.out, HDP.out]; unfold okRest; rw [HSVE.out, HPRE.out, HSHE.out, HNUE.out]; rfl⟩⟩
        case measure => simp [intOf]; omega
    · have hk' : k = l0.length := by omega
      subst hk'
      have hfin : okSteps l0 = decide (1 ≤ l0.length ∧ l0.length ≤ 5) := by unfold okSteps; rw [hU.out, Bool.and_true]
      by_cases g : 1 ≤ l0.length
      · have hfin' : okSteps l0 = decide ((l0.length : Int) ≤ 5) := by rw [hfin]; exact decide_eq_decide.2 (by omega)
        have HF := Lib.hid hfin'
        clear hfin hfin'
        go_wp2
        all_goals (go_ret; exact ⟨ret_bool (by rw [HF.out]), hb⟩)
      · have hfin' : okSteps l0 = false := by rw [hfin]; exact decide_eq_false (by omega)
        have HF := Lib.hid hfin'
        clear hfin hfin'
        go_wp2
        all_goals (go_ret; exact ⟨ret_bool (by rw [HF.out]), hb⟩)
end Go.Proofs.Ytmhjhhlgdenlkaa.P
namespace Go.Proofs.Ytmhjhhlgdenlkaa.P
open Go.RowKit Go.Proofs.YtmhjhhlgdenlkaaW.PrintWords Go.Proofs.YtmhjhhlgdenlkaaW.PrintLast Go.Proofs.YtmhjhhlgdenlkaaW.PrintMore
attribute [local go_sem] max2_int min2_int max_two min_two
set_option linter.unusedVariables false
set_option linter.unusedSimpArgs false
mutual
def record_May.j0 : Nat → Bool → Int → Int → Int → ByteArray → ByteArray → List (S80) → Option (Bool)
  | 0, _, _, _, _, _, _, _ => none
  | k + 1, x22, x156000, x156001, x156002, x156003, x156004, x156005 => if x22 = true then (some false) else (if x156000 = 1 then (if x156002 = 0 then (if x156003.toList = ([] : List UInt8) then (some false) else ((json_Short.f x156003).bind fun t165 => (if t165 = true then (if (x156004.size : Int) ≥ 1 then (if (x156004.size : Int) ≤ 3000 then ((plan_May.f x156005).bind fun t166 => (some t166)) else (some false)) else (some false)) else (some false)))) else (some false)) else (if x156000 = 2 then (record_May.j1 k x156000 (x156000 == 2) x156000 x156001 x156002 x156003 x156004 x156005) else (if x156000 = 3 then (record_May.j1 k x156000 (x156000 == 3) x156000 x156001 x156002 x156003 x156004 x156005) else (record_May.j1 k x156000 (x156000 == 5) x156000 x156001 x156002 x156003 x156004 x156005))))
def record_May.j1 : Nat → Int → Bool → Int → Int → Int → ByteArray → ByteArray → List (S80) → Option (Bool)
  | 0, _, _, _, _, _, _, _, _ => none
  | k + 1, x24, x57, x156000, x156001, x156002, x156003, x156004, x156005 => if x57 = true then (if x156002 ≥ 0 then (some (decide (x156002 < 5))) else (some false)) else (if x24 = 4 then (some (x156002 == 0)) else (if x24 = 6 then (if x156002 ≥ 1 then (some (decide (x156002 ≤ 3))) else (some false)) else (some false)))
end
def record_May.f (k : Nat) (a0_0 : Int) (a0_1 : Int) (a0_2 : Int) (a0_3 : ByteArray) (a0_4 : ByteArray) (l0_5 : List (S80)) : Option (Bool) := if a0_1 < 1 then (record_May.j0 k true a0_0 a0_1 a0_2 a0_3 a0_4 l0_5) else (if a0_1 > 20 then (record_May.j0 k true a0_0 a0_1 a0_2 a0_3 a0_4 l0_5) else (if a0_0 = 1 then (record_May.j0 k false a0_0 a0_1 a0_2 a0_3 a0_4 l0_5) else ((record_bare.f a0_0 a0_1 a0_2 a0_3 a0_4 l0_5).bind fun bt156 => ((record_same.f k a0_0 a0_1 a0_2 a0_3 a0_4 l0_5 bt156.1 bt156.2.1 bt156.2.2.1 bt156.2.2.2.1 bt156.2.2.2.2.1 bt156.2.2.2.2.2).bind fun t164 => (record_May.j0 k (!t164) a0_0 a0_1 a0_2 a0_3 a0_4 l0_5)))))
def record_May.T1 : Bool × List (List Nat × List Nat) := (true, [([], []), ([0], [0]), ([1], [1]), ([2], [2]), ([3], [3]), ([4, 3], [3, 4]), ([5, 3], [3, 5]), ([3, 6], [3, 6]), ([7, 3], [7]), ([8], [8]), ([9, 8], [8, 9]), ([10, 8], [8, 10]), ([11, 8, 8], [8, 11]), ([12], [12]), ([12], [12]), ([14, 12, 12], [12, 14]), ([13, 15, 15, 12], [12, 13, 15]), ([16, 12], [12, 16]), ([12, 17, 8], [8, 12, 17]), ([8, 18], [8, 18])])
def record_May.B1 : List Nat := [0, 1, 3, 7, 15, 31, 63, 127, 255, 511, 1023, 2047, 4095, 8191, 8191, 24575, 65535, 131071, 262143, 524287]
theorem record_May.tab1 : rtab .any (opsOf Try.f35 1) = record_May.T1 := by kernel_rfl
theorem record_May.bits1 : waitsOk record_May.T1.2 record_May.B1 = true := by kernel_rfl
set_option maxHeartbeats 8000000 in
set_option maxRecDepth 100000 in
theorem record_May.calls (k : Nat) (a0_0 : Int) (a0_1 : Int) (a0_2 : Int) (a0_3 : ByteArray) (a0_4 : ByteArray) (A0_5 : Option Addr) (c0_5 : Nat) (l0_5 : List (S80)) (r : Bool) (w : World) (hr0_5 : Kd.C k80 w A0_5 l0_5.length l0_5) (hc0_5 : l0_5.length ≤ c0_5) (h : record_May.f k a0_0 a0_1 a0_2 a0_3 a0_4 l0_5 = some r) :
    Calls Try.prog 35 #[.agg #[.int .i64 a0_0, .int .i64 a0_1, .int .i64 a0_2, .string a0_3, .string a0_4, .slice A0_5 l0_5.length c0_5]] w fun e w' => e = .returned (.bool r) ∧ Below w.heap.size w w' := by
  have hu42 := Try.underlying42
  have HR0_5 := Aside0.mk hr0_5
  have HC0_5 := Aside0.mk hc0_5
  clear hr0_5 hc0_5
  have HB := Aside0.mk (Below.refl w.heap.size w)
  have H : (if a0_1 < 1 then (record_May.j0 k true a0_0 a0_1 a0_2 a0_3 a0_4 l0_5) else (if a0_1 > 20 then (record_May.j0 k true a0_0 a0_1 a0_2 a0_3 a0_4 l0_5) else (if a0_0 = 1 then (record_May.j0 k false a0_0 a0_1 a0_2 a0_3 a0_4 l0_5) else ((record_bare.f a0_0 a0_1 a0_2 a0_3 a0_4 l0_5).bind fun bt156 => ((record_same.f k a0_0 a0_1 a0_2 a0_3 a0_4 l0_5 bt156.1 bt156.2.1 bt156.2.2.1 bt156.2.2.2.1 bt156.2.2.2.2.1 bt156.2.2.2.2.2).bind fun t164 => (record_May.j0 k (!t164) a0_0 a0_1 a0_2 a0_3 a0_4 l0_5)))))) = some r := h
  clear h
  have HC2 := Aside0.mk H
  clear H
  go_enter Try.func35, Try.ntmps35
  go_upto_region 1 with (first | ((with_reducible refine gate_dst (N := 1) rfl ?_); (try (refine gate_guard (by rfl) ?_; dsimp only)); refine box_event ?hg (N := 1) ?hd (cs := #[.int .i64 a0_0, .int .i64 a0_1, .int .i64 a0_2, .string a0_3, .string a0_4, .slice A0_5 l0_5.length c0_5]) (t := 42) ?hr ?_; (case hd => rfl); (case hg => rfl); (case hr => first | (go_simp; done) | (go_simp; rfl)); intro gb155 hg w3 hbox hb; have n0_ := Aside0.mk (below_step (by repeat (first | (with_reducible first | exact HB.out | apply below_alloc | apply pw_below_drewN | apply below_drew1) | exact HB.out)) hb); have n1_ := Aside0.mk (hbox); have n2_ := Aside0.mk ((by rw [hg]; exact (below_size (by repeat (first | (with_reducible first | exact HB.out | apply below_alloc | apply pw_below_drewN | apply below_drew1) | exact HB.out))) : w.heap.size ≤ gb155)); have n3_ := Aside0.mk ((by rw [hg]; exact (below_size (by repeat (first | (with_reducible first | exact HB.out | apply below_alloc | apply pw_below_drewN | apply below_drew1) | exact HB.out))) : w.heap.size ≤ gb155)); clear HB; have HB := n0_; have BK155 := n1_; have GW155 := n2_; have GE155 := n3_; clear n0_ n1_ n2_ n3_; clear hb hbox hg))
  (try simp only [Act.put, List.setIfInBounds_toArray, List.set_cons_zero, List.set_cons_succ])
  go_cut [22] (fun v22 wc => ∃ (kq : Nat) (x22_1 : Bool), v22 = .bool x22_1 ∧ Aside0 (record_May.j0 kq x22_1 a0_0 a0_1 a0_2 a0_3 a0_4 l0_5 = some r) ∧ Aside0 (kq ≤ k) ∧ Aside0 (wc.heap[gb155]? = some (.cells #[.int .i64 a0_0, .int .i64 a0_1, .int .i64 a0_2, .string a0_3, .string a0_4, (.slice A0_5 l0_5.length c0_5)] 42 (0, 0))) ∧ Aside0 (Below w.heap.size w wc))
  case first =>
    have H := HC2.out
    clear HC2
    by_cases c4 : a0_1 < 1
    · rw [if_pos c4] at H
      have c4b0 : decide (a0_1 < 1) = true := decide_eq_true c4
      clear c4
      (first | rw [c4b0] | (simp only [i64_w, i32_w]; rw [c4b0]) | skip)
      have H' := Aside0.mk H
      clear H
      try go_wp2
      have n0_ := Aside0.mk (blk_drew BK155.out)
      have n1_ := Aside0.mk (below_drew1 HB.out)
      clear BK155
      clear HB
      have BK155 := n0_
      have HB := n1_
      clear n0_ n1_
      refine start_ (n := 20) (S := fun w' => w'.cell? ⟨gb155, 0, none⟩ = some (.int .i64 a0_0) ∧ w'.cell? ⟨gb155, 1, none⟩ = some (.int .i64 a0_1) ∧ w'.cell? ⟨gb155, 2, none⟩ = some (.int .i64 a0_2) ∧ w'.cell? ⟨gb155, 3, none⟩ = some (.string a0_3) ∧ w'.cell? ⟨gb155, 4, none⟩ = some (.string a0_4) ∧ w'.cell? ⟨gb155, 5, none⟩ = some (.slice A0_5 l0_5.length c0_5)) (ds := []) #[false, false, false, false, false, false, false, false, false, false, false, false, false, false, false, false, false, false, false, false] (by kernel_rfl) rfl rfl ⟨(blk_cell BK155.out 0).trans rfl, (blk_cell BK155.out 1).trans rfl, (blk_cell BK155.out 2).trans rfl, (blk_cell BK155.out 3).trans rfl, (blk_cell BK155.out 4).trans rfl, (blk_cell BK155.out 5).trans rfl⟩ (fun hHeld => ?_); refine with_tabW record_May.tab1 record_May.bits1 (fun HT_ HW_ => ?_)
      generalize w3.drew = w5 at BK155 HB hHeld ⊢
      refine pure_ (i := 0) (N := some 3) (v := ?_) (a' := ?_) #[true, false, false, false, false, false, false, false, false, false, false, false, false, false, false, false, false, false, false, false] rfl rfl (any_of HT_.out (by kernel_rfl)) (fun _ _ _ h => h) (Or.inl ⟨by rfl, ?_⟩) ?_ ?_
      rotate_left
      · intro w'
        go_simp
        with_reducible rfl
      rotate_left
      · simp only [Act.put, List.setIfInBounds_toArray, List.set_cons_zero, List.set_cons_succ, i64_w, i32_w]
        rfl
      refine take_ (i := 1) (N := some 4) (v := ?_) (a' := ?_) #[true, true, false, false, false, false, false, false, false, false, false, false, false, false, false, false, false, false, false, false] rfl rfl (take_ofW HT_.out HW_.out (by kernel_rfl)) (fun _ _ _ h => h) (Or.inl ⟨by rfl, ?_⟩) hHeld ?_ ?_
      rotate_left
      · rintro w' ⟨s0, s1, s2, s3, s4, s5⟩
        go_simp
        with_reducible rfl
      rotate_left
      · simp only [Act.put, List.setIfInBounds_toArray, List.set_cons_zero, List.set_cons_succ, i64_w, i32_w]
        rfl
      refine pure_ (i := 2) (N := some 5) (v := ?_) (a' := ?_) #[true, true, true, false, false, false, false, false, false, false, false, false, false, false, false, false, false, false, false, false] rfl rfl (any_of HT_.out (by kernel_rfl)) (fun _ _ _ h => h) (Or.inl ⟨by rfl, ?_⟩) ?_ ?_
      rotate_left
      · intro w'
        go_simp
        with_reducible rfl
      rotate_left
      · simp only [Act.put, List.setIfInBounds_toArray, List.set_cons_zero, List.set_cons_succ, i64_w, i32_w]
        rfl
      refine pure_ (i := 3) (N := some 6) (v := ?_) (a' := ?_) #[true, true, true, true, false, false, false, false, false, false, false, false, false, false, false, false, false, false, false, false] rfl rfl (any_of HT_.out (by kernel_rfl)) (fun _ _ _ h => h) (Or.inl ⟨by rfl, ?_⟩) ?_ ?_
      rotate_left
      · intro w'
        go_simp
        with_reducible rfl
      rotate_left
      · simp only [Act.put, List.setIfInBounds_toArray, List.set_cons_zero, List.set_cons_succ, i64_w, i32_w]
        rfl
      refine pure_ (i := 4) (N := some 7) (v := undef) (a' := ?_) #[true, true, true, true, true, false, false, false, false, false, false, false, false, false, false, false, false, false, false, false] rfl rfl (any_of HT_.out (by kernel_rfl)) (fun _ _ _ h => h) (Or.inr ⟨by rfl, rfl⟩) ?_ ?_
      rotate_left
      · simp only [Act.put, List.setIfInBounds_toArray, List.set_cons_zero, List.set_cons_succ, i64_w, i32_w]
        rfl
      refine pure_ (i := 5) (N := some 8) (v := undef) (a' := ?_) #[true, true, true, true, true, true, false, false, false, false, false, false, false, false, false, false, false, false, false, false] rfl rfl (any_of HT_.out (by kernel_rfl)) (fun _ _ _ h => h) (Or.inr ⟨by rfl, rfl⟩) ?_ ?_
      rotate_left
      · simp only [Act.put, List.setIfInBounds_toArray, List.set_cons_zero, List.set_cons_succ, i64_w, i32_w]
        rfl
      refine pure_ (i := 6) (N := some 9) (v := undef) (a' := ?_) #[true, true, true, true, true, true, true, false, false, false, false, false, false, false, false, false, false, false, false, false] rfl rfl (any_of HT_.out (by kernel_rfl)) (fun _ _ _ h => h) (Or.inr ⟨by rfl, rfl⟩) ?_ ?_
      rotate_left
      · simp only [Act.put, List.setIfInBounds_toArray, List.set_cons_zero, List.set_cons_succ, i64_w, i32_w]
        rfl
      refine pure_ (i := 7) (N := some 10) (v := ?_) (a' := ?_) #[true, true, true, true, true, true, true, true, false, false, false, false, false, false, false, false, false, false, false, false] rfl rfl (any_of HT_.out (by kernel_rfl)) (fun _ _ _ h => h) (Or.inl ⟨by rfl, ?_⟩) ?_ ?_
      rotate_left
      · intro w'
        go_simp
        with_reducible rfl
      rotate_left
      · simp only [Act.put, List.setIfInBounds_toArray, List.set_cons_zero, List.set_cons_succ, i64_w, i32_w]
        rfl
      refine pure_ (i := 8) (N := some 11) (v := ?_) (a' := ?_) #[true, true, true, true, true, true, true, true, true, false, false, false, false, false, false, false, false, false, false, false] rfl rfl (any_of HT_.out (by kernel_rfl)) (fun _ _ _ h => h) (Or.inl ⟨by rfl, ?_⟩) ?_ ?_
      rotate_left
      · intro w'
        go_simp
        with_reducible rfl
      rotate_left
      · simp only [Act.put, List.setIfInBounds_toArray, List.set_cons_zero, List.set_cons_succ, i64_w, i32_w]
        rfl
      refine pure_ (i := 9) (N := some 12) (v := undef) (a' := ?_) #[true, true, true, true, true, true, true, true, true, true, false, false, false, false, false, false, false, false, false, false] rfl rfl (any_of HT_.out (by kernel_rfl)) (fun _ _ _ h => h) (Or.inr ⟨by rfl, rfl⟩) ?_ ?_
      rotate_left
      · simp only [Act.put, List.setIfInBounds_toArray, List.set_cons_zero, List.set_cons_succ, i64_w, i32_w]
        rfl
      refine pure_ (i := 10) (N := some 13) (v := undef) (a' := ?_) #[true, true, true, true, true, true, true, true, true, true, true, false, false, false, false, false, false, false, false, false] rfl rfl (any_of HT_.out (by kernel_rfl)) (fun _ _ _ h => h) (Or.inr ⟨by rfl, rfl⟩) ?_ ?_
      rotate_left
      · simp only [Act.put, List.setIfInBounds_toArray, List.set_cons_zero, List.set_cons_succ, i64_w, i32_w]
        rfl
      refine pure_ (i := 11) (N := some 14) (v := undef) (a' := ?_) #[true, true, true, true, true, true, true, true, true, true, true, true, false, false, false, false, false, false, false, false] rfl rfl (any_of HT_.out (by kernel_rfl)) (fun _ _ _ h => h) (Or.inr ⟨by rfl, rfl⟩) ?_ ?_
      rotate_left
      · simp only [Act.put, List.setIfInBounds_toArray, List.set_cons_zero, List.set_cons_succ, i64_w, i32_w]
        rfl
      refine pure_ (i := 12) (N := some 15) (v := undef) (a' := ?_) #[true, true, true, true, true, true, true, true, true, true, true, true, true, false, false, false, false, false, false, false] rfl rfl (any_of HT_.out (by kernel_rfl)) (fun _ _ _ h => h) (Or.inr ⟨by rfl, rfl⟩) ?_ ?_
      rotate_left
      · simp only [Act.put, List.setIfInBounds_toArray, List.set_cons_zero, List.set_cons_succ, i64_w, i32_w]
        rfl
      refine pure_ (i := 13) (N := some 16) (v := undef) (a' := ?_) #[true, true, true, true, true, true, true, true, true, true, true, true, true, true, false, false, false, false, false, false] rfl rfl (any_of HT_.out (by kernel_rfl)) (fun _ _ _ h => h) (Or.inr ⟨by rfl, rfl⟩) ?_ ?_
      rotate_left
      · simp only [Act.put, List.setIfInBounds_toArray, List.set_cons_zero, List.set_cons_succ, i64_w, i32_w]
        rfl
      refine pure_ (i := 14) (N := some 17) (v := undef) (a' := ?_) #[true, true, true, true, true, true, true, true, true, true, true, true, true, true, true, false, false, false, false, false] rfl rfl (any_of HT_.out (by kernel_rfl)) (fun _ _ _ h => h) (Or.inr ⟨by rfl, rfl⟩) ?_ ?_
      rotate_left
      · simp only [Act.put, List.setIfInBounds_toArray, List.set_cons_zero, List.set_cons_succ, i64_w, i32_w]
        rfl
      refine pure_ (i := 15) (N := some 18) (v := undef) (a' := ?_) #[true, true, true, true, true, true, true, true, true, true, true, true, true, true, true, true, false, false, false, false] rfl rfl (any_of HT_.out (by kernel_rfl)) (fun _ _ _ h => h) (Or.inr ⟨by rfl, rfl⟩) ?_ ?_
      rotate_left
      · simp only [Act.put, List.setIfInBounds_toArray, List.set_cons_zero, List.set_cons_succ, i64_w, i32_w]
        rfl
      refine pure_ (i := 16) (N := some 19) (v := undef) (a' := ?_) #[true, true, true, true, true, true, true, true, true, true, true, true, true, true, true, true, true, false, false, false] rfl rfl (any_of HT_.out (by kernel_rfl)) (fun _ _ _ h => h) (Or.inr ⟨by rfl, rfl⟩) ?_ ?_
      rotate_left
      · simp only [Act.put, List.setIfInBounds_toArray, List.set_cons_zero, List.set_cons_succ, i64_w, i32_w]
        rfl
      refine pure_ (i := 17) (N := some 20) (v := undef) (a' := ?_) #[true, true, true, true, true, true, true, true, true, true, true, true, true, true, true, true, true, true, false, false] rfl rfl (any_of HT_.out (by kernel_rfl)) (fun _ _ _ h => h) (Or.inr ⟨by rfl, rfl⟩) ?_ ?_
      rotate_left
      · simp only [Act.put, List.setIfInBounds_toArray, List.set_cons_zero, List.set_cons_succ, i64_w, i32_w]
        rfl
      refine pure_ (i := 18) (N := some 21) (v := undef) (a' := ?_) #[true, true, true, true, true, true, true, true, true, true, true, true, true, true, true, true, true, true, true, false] rfl rfl (any_of HT_.out (by kernel_rfl)) (fun _ _ _ h => h) (Or.inr ⟨by rfl, rfl⟩) ?_ ?_
      rotate_left
      · simp only [Act.put, List.setIfInBounds_toArray, List.set_cons_zero, List.set_cons_succ, i64_w, i32_w]
        rfl
      refine pure_ (i := 19) (N := some 22) (v := ?_) (a' := ?_) #[true, true, true, true, true, true, true, true, true, true, true, true, true, true, true, true, true, true, true, true] rfl rfl (any_of HT_.out (by kernel_rfl)) (fun _ _ _ h => h) (Or.inl ⟨by rfl, ?_⟩) ?_ ?_
      rotate_left
      · intro w'
        go_simp
        with_reducible rfl
      rotate_left
      · simp only [Act.put, List.setIfInBounds_toArray, List.set_cons_zero, List.set_cons_succ, i64_w, i32_w]
        rfl
      refine done_ (done_of HT_.out (by kernel_rfl)) ?_
      try go_wp2
      go_meet
      case rel => exact ⟨_, (true), (by first | rfl | (simp; done) | (simp [*]; done)), H', ⟨by first | omega | exact Nat.le_refl _⟩, ⟨by (with_reducible repeat (first | refine blk_drewN ?_ _ | refine blk_drew ?_ | refine blk_alloc ?_ _)); exact BK155.out⟩, ⟨by repeat (first | (with_reducible first | exact HB.out | apply below_alloc | apply pw_below_drewN | apply below_drew1 | refine below_set ?_ GE155.out) | exact HB.out)⟩⟩
    · rw [if_neg c4] at H
      have c4b0 : decide (a0_1 < 1) = false := decide_eq_false c4
      clear c4
      (first | rw [c4b0] | (simp only [i64_w, i32_w]; rw [c4b0]) | skip)
      by_cases c6 : a0_1 > 20
      · rw [if_pos c6] at H
        have c6b0 : decide (20 < a0_1) = true := decide_eq_true c6
        clear c6
        have H' := Aside0.mk H
        clear H
        try go_wp2
        have n0_ := Aside0.mk (blk_drew BK155.out)
        have n1_ := Aside0.mk (below_drew1 HB.out)
        clear BK155
        clear HB
        have BK155 := n0_
        have HB := n1_
        clear n0_ n1_
        refine start_ (n := 20) (S := fun w' => w'.cell? ⟨gb155, 0, none⟩ = some (.int .i64 a0_0) ∧ w'.cell? ⟨gb155, 1, none⟩ = some (.int .i64 a0_1) ∧ w'.cell? ⟨gb155, 2, none⟩ = some (.int .i64 a0_2) ∧ w'.cell? ⟨gb155, 3, none⟩ = some (.string a0_3) ∧ w'.cell? ⟨gb155, 4, none⟩ = some (.string a0_4) ∧ w'.cell? ⟨gb155, 5, none⟩ = some (.slice A0_5 l0_5.length c0_5)) (ds := []) #[false, false, false, false, false, false, false, false, false, false, false, false, false, false, false, false, false, false, false, false] (by kernel_rfl) rfl rfl ⟨(blk_cell BK155.out 0).trans rfl, (blk_cell BK155.out 1).trans rfl, (blk_cell BK155.out 2).trans rfl, (blk_cell BK155.out 3).trans rfl, (blk_cell BK155.out 4).trans rfl, (blk_cell BK155.out 5).trans rfl⟩ (fun hHeld => ?_); refine with_tabW record_May.tab1 record_May.bits1 (fun HT_ HW_ => ?_)
        generalize w3.drew = w7 at BK155 HB hHeld ⊢
        refine pure_ (i := 0) (N := some 3) (v := ?_) (a' := ?_) #[true, false, false, false, false, false, false, false, false, false, false, false, false, false, false, false, false, false, false, false] rfl rfl (any_of HT_.out (by kernel_rfl)) (fun _ _ _ h => h) (Or.inl ⟨by rfl, ?_⟩) ?_ ?_
        rotate_left
        · intro w'
          go_simp
          with_reducible rfl
        rotate_left
        · simp only [Act.put, List.setIfInBounds_toArray, List.set_cons_zero, List.set_cons_succ, i64_w, i32_w]
          rfl
        refine take_ (i := 1) (N := some 4) (v := ?_) (a' := ?_) #[true, true, false, false, false, false, false, false, false, false, false, false, false, false, false, false, false, false, false, false] rfl rfl (take_ofW HT_.out HW_.out (by kernel_rfl)) (fun _ _ _ h => h) (Or.inl ⟨by rfl, ?_⟩) hHeld ?_ ?_
        rotate_left
        · rintro w' ⟨s0, s1, s2, s3, s4, s5⟩
          go_simp
          with_reducible rfl
        rotate_left
        · simp only [Act.put, List.setIfInBounds_toArray, List.set_cons_zero, List.set_cons_succ, i64_w, i32_w]
          rfl
        refine pure_ (i := 2) (N := some 5) (v := ?_) (a' := ?_) #[true, true, true, false, false, false, false, false, false, false, false, false, false, false, false, false, false, false, false, false] rfl rfl (any_of HT_.out (by kernel_rfl)) (fun _ _ _ h => h) (Or.inl ⟨by rfl, ?_⟩) ?_ ?_
        rotate_left
        · intro w'
          go_simp
          with_reducible rfl
        rotate_left
        · simp only [Act.put, List.setIfInBounds_toArray, List.set_cons_zero, List.set_cons_succ, i64_w, i32_w]
          rfl
        refine pure_ (i := 3) (N := some 6) (v := ?_) (a' := ?_) #[true, true, true, true, false, false, false, false, false, false, false, false, false, false, false, false, false, false, false, false] rfl rfl (any_of HT_.out (by kernel_rfl)) (fun _ _ _ h => h) (Or.inl ⟨by rfl, ?_⟩) ?_ ?_
        rotate_left
        · intro w'
          go_simp
          with_reducible rfl
        rotate_left
        · simp only [Act.put, List.setIfInBounds_toArray, List.set_cons_zero, List.set_cons_succ, i64_w, i32_w]
          rfl
        refine pure_ (i := 4) (N := some 7) (v := ?_) (a' := ?_) #[true, true, true, true, true, false, false, false, false, false, false, false, false, false, false, false, false, false, false, false] rfl rfl (any_of HT_.out (by kernel_rfl)) (fun _ _ _ h => h) (Or.inl ⟨by rfl, ?_⟩) ?_ ?_
        rotate_left
        · intro w'
          go_simp
          with_reducible rfl
        rotate_left
        · simp only [Act.put, List.setIfInBounds_toArray, List.set_cons_zero, List.set_cons_succ, i64_w, i32_w]
          rfl
        refine take_ (i := 5) (N := some 8) (v := ?_) (a' := ?_) #[true, true, true, true, true, true, false, false, false, false, false, false, false, false, false, false, false, false, false, false] rfl rfl (take_ofW HT_.out HW_.out (by kernel_rfl)) (fun _ _ _ h => h) (Or.inl ⟨by rfl, ?_⟩) hHeld ?_ ?_
        rotate_left
        · rintro w' ⟨s0, s1, s2, s3, s4, s5⟩
          go_simp
          with_reducible rfl
        rotate_left
        · simp only [Act.put, List.setIfInBounds_toArray, List.set_cons_zero, List.set_cons_succ, i64_w, i32_w]
          rfl
        refine pure_ (i := 6) (N := some 9) (v := ?_) (a' := ?_) #[true, true, true, true, true, true, true, false, false, false, false, false, false, false, false, false, false, false, false, false] rfl rfl (any_of HT_.out (by kernel_rfl)) (fun _ _ _ h => h) (Or.inl ⟨by rfl, ?_⟩) ?_ ?_
        rotate_left
        · intro w'
          go_simp
          with_reducible rfl
        rotate_left
        · simp only [Act.put, List.setIfInBounds_toArray, List.set_cons_zero, List.set_cons_succ, i64_w, i32_w]
          rfl
        refine pure_ (i := 7) (N := some 10) (v := ?_) (a' := ?_) #[true, true, true, true, true, true, true, true, false, false, false, false, false, false, false, false, false, false, false, false] rfl rfl (any_of HT_.out (by kernel_rfl)) (fun _ _ _ h => h) (Or.inl ⟨by rfl, ?_⟩) ?_ ?_
        rotate_left
        · intro w'
          go_simp
          with_reducible rfl
        rotate_left
        · simp only [Act.put, List.setIfInBounds_toArray, List.set_cons_zero, List.set_cons_succ, i64_w, i32_w]
          rfl
        refine pure_ (i := 8) (N := some 11) (v := ?_) (a' := ?_) #[true, true, true, true, true, true, true, true, true, false, false, false, false, false, false, false, false, false, false, false] rfl rfl (any_of HT_.out (by kernel_rfl)) (fun _ _ _ h => h) (Or.inl ⟨by rfl, ?_⟩) ?_ ?_
        rotate_left
        · intro w'
          go_simp
          with_reducible rfl
        rotate_left
        · simp only [Act.put, List.setIfInBounds_toArray, List.set_cons_zero, List.set_cons_succ, i64_w, i32_w]
          rfl
        refine pure_ (i := 9) (N := some 12) (v := undef) (a' := ?_) #[true, true, true, true, true, true, true, true, true, true, false, false, false, false, false, false, false, false, false, false] rfl rfl (any_of HT_.out (by kernel_rfl)) (fun _ _ _ h => h) (Or.inr ⟨by rfl, rfl⟩) ?_ ?_
        rotate_left
        · simp only [Act.put, List.setIfInBounds_toArray, List.set_cons_zero, List.set_cons_succ, i64_w, i32_w]
          rfl
        refine pure_ (i := 10) (N := some 13) (v := undef) (a' := ?_) #[true, true, true, true, true, true, true, true, true, true, true, false, false, false, false, false, false, false, false, false] rfl rfl (any_of HT_.out (by kernel_rfl)) (fun _ _ _ h => h) (Or.inr ⟨by rfl, rfl⟩) ?_ ?_
        rotate_left
        · simp only [Act.put, List.setIfInBounds_toArray, List.set_cons_zero, List.set_cons_succ, i64_w, i32_w]
          rfl
        refine pure_ (i := 11) (N := some 14) (v := undef) (a' := ?_) #[true, true, true, true, true, true, true, true, true, true, true, true, false, false, false, false, false, false, false, false] rfl rfl (any_of HT_.out (by kernel_rfl)) (fun _ _ _ h => h) (Or.inr ⟨by rfl, rfl⟩) ?_ ?_
        rotate_left
        · simp only [Act.put, List.setIfInBounds_toArray, List.set_cons_zero, List.set_cons_succ, i64_w, i32_w]
          rfl
        refine pure_ (i := 12) (N := some 15) (v := undef) (a' := ?_) #[true, true, true, true, true, true, true, true, true, true, true, true, true, false, false, false, false, false, false, false] rfl rfl (any_of HT_.out (by kernel_rfl)) (fun _ _ _ h => h) (Or.inr ⟨by rfl, rfl⟩) ?_ ?_
        rotate_left
        · simp only [Act.put, List.setIfInBounds_toArray, List.set_cons_zero, List.set_cons_succ, i64_w, i32_w]
          rfl
        refine pure_ (i := 13) (N := some 16) (v := undef) (a' := ?_) #[true, true, true, true, true, true, true, true, true, true, true, true, true, true, false, false, false, false, false, false] rfl rfl (any_of HT_.out (by kernel_rfl)) (fun _ _ _ h => h) (Or.inr ⟨by rfl, rfl⟩) ?_ ?_
        rotate_left
        · simp only [Act.put, List.setIfInBounds_toArray, List.set_cons_zero, List.set_cons_succ, i64_w, i32_w]
          rfl
        refine pure_ (i := 14) (N := some 17) (v := undef) (a' := ?_) #[true, true, true, true, true, true, true, true, true, true, true, true, true, true, true, false, false, false, false, false] rfl rfl (any_of HT_.out (by kernel_rfl)) (fun _ _ _ h => h) (Or.inr ⟨by rfl, rfl⟩) ?_ ?_
        rotate_left
        · simp only [Act.put, List.setIfInBounds_toArray, List.set_cons_zero, List.set_cons_succ, i64_w, i32_w]
          rfl
        refine pure_ (i := 15) (N := some 18) (v := undef) (a' := ?_) #[true, true, true, true, true, true, true, true, true, true, true, true, true, true, true, true, false, false, false, false] rfl rfl (any_of HT_.out (by kernel_rfl)) (fun _ _ _ h => h) (Or.inr ⟨by rfl, rfl⟩) ?_ ?_
        rotate_left
        · simp only [Act.put, List.setIfInBounds_toArray, List.set_cons_zero, List.set_cons_succ, i64_w, i32_w]
          rfl
        refine pure_ (i := 16) (N := some 19) (v := undef) (a' := ?_) #[true, true, true, true, true, true, true, true, true, true, true, true, true, true, true, true, true, false, false, false] rfl rfl (any_of HT_.out (by kernel_rfl)) (fun _ _ _ h => h) (Or.inr ⟨by rfl, rfl⟩) ?_ ?_
        rotate_left
        · simp only [Act.put, List.setIfInBounds_toArray, List.set_cons_zero, List.set_cons_succ, i64_w, i32_w]
          rfl
        refine pure_ (i := 17) (N := some 20) (v := undef) (a' := ?_) #[true, true, true, true, true, true, true, true, true, true, true, true, true, true, true, true, true, true, false, false] rfl rfl (any_of HT_.out (by kernel_rfl)) (fun _ _ _ h => h) (Or.inr ⟨by rfl, rfl⟩) ?_ ?_
        rotate_left
        · simp only [Act.put, List.setIfInBounds_toArray, List.set_cons_zero, List.set_cons_succ, i64_w, i32_w]
          rfl
        refine pure_ (i := 18) (N := some 21) (v := undef) (a' := ?_) #[true, true, true, true, true, true, true, true, true, true, true, true, true, true, true, true, true, true, true, false] rfl rfl (any_of HT_.out (by kernel_rfl)) (fun _ _ _ h => h) (Or.inr ⟨by rfl, rfl⟩) ?_ ?_
        rotate_left
        · simp only [Act.put, List.setIfInBounds_toArray, List.set_cons_zero, List.set_cons_succ, i64_w, i32_w]
          rfl
        refine pure_ (i := 19) (N := some 22) (v := ?_) (a' := ?_) #[true, true, true, true, true, true, true, true, true, true, true, true, true, true, true, true, true, true, true, true] rfl rfl (any_of HT_.out (by kernel_rfl)) (fun _ _ _ h => h) (Or.inl ⟨by rfl, ?_⟩) ?_ ?_
        rotate_left
        · intro w'
          go_simp
          with_reducible rfl
        rotate_left
        · simp only [Act.put, List.setIfInBounds_toArray, List.set_cons_zero, List.set_cons_succ, i64_w, i32_w]
          rfl
        refine done_ (done_of HT_.out (by kernel_rfl)) ?_
        try go_wp2
        go_meet
        case rel => exact ⟨_, (true), (by first | rfl | (simp; done) | (simp [*]; done)), H', ⟨by first | omega | exact Nat.le_refl _⟩, ⟨by (with_reducible repeat (first | refine blk_drewN ?_ _ | refine blk_drew ?_ | refine blk_alloc ?_ _)); exact BK155.out⟩, ⟨by repeat (first | (with_reducible first | exact HB.out | apply below_alloc | apply pw_below_drewN | apply below_drew1 | refine below_set ?_ GE155.out) | exact HB.out)⟩⟩
      · rw [if_neg c6] at H
        have c6b0 : decide (20 < a0_1) = false := decide_eq_false c6
        clear c6
        by_cases c8 : a0_0 = 1
        · rw [if_pos c8] at H
          have c8b0 : (a0_0 == 1) = true := beq_iff_eq.mpr c8
          have c8b1 : (a0_0 != 1) = false := bne_eq_false_iff_eq.mpr c8
          clear c8
          have H' := Aside0.mk H
          clear H
          try go_wp2
          have n0_ := Aside0.mk (blk_drew BK155.out)
          have n1_ := Aside0.mk (below_drew1 HB.out)
          clear BK155
          clear HB
          have BK155 := n0_
          have HB := n1_
          clear n0_ n1_
          refine start_ (n := 20) (S := fun w' => w'.cell? ⟨gb155, 0, none⟩ = some (.int .i64 a0_0) ∧ w'.cell? ⟨gb155, 1, none⟩ = some (.int .i64 a0_1) ∧ w'.cell? ⟨gb155, 2, none⟩ = some (.int .i64 a0_2) ∧ w'.cell? ⟨gb155, 3, none⟩ = some (.string a0_3) ∧ w'.cell? ⟨gb155, 4, none⟩ = some (.string a0_4) ∧ w'.cell? ⟨gb155, 5, none⟩ = some (.slice A0_5 l0_5.length c0_5)) (ds := []) #[false, false, false, false, false, false, false, false, false, false, false, false, false, false, false, false, false, false, false, false] (by kernel_rfl) rfl rfl ⟨(blk_cell BK155.out 0).trans rfl, (blk_cell BK155.out 1).trans rfl, (blk_cell BK155.out 2).trans rfl, (blk_cell BK155.out 3).trans rfl, (blk_cell BK155.out 4).trans rfl, (blk_cell BK155.out 5).trans rfl⟩ (fun hHeld => ?_); refine with_tabW record_May.tab1 record_May.bits1 (fun HT_ HW_ => ?_)
          generalize w3.drew = w9 at BK155 HB hHeld ⊢
          refine pure_ (i := 0) (N := some 3) (v := ?_) (a' := ?_) #[true, false, false, false, false, false, false, false, false, false, false, false, false, false, false, false, false, false, false, false] rfl rfl (any_of HT_.out (by kernel_rfl)) (fun _ _ _ h => h) (Or.inl ⟨by rfl, ?_⟩) ?_ ?_
          rotate_left
          · intro w'
            go_simp
            with_reducible rfl
          rotate_left
          · simp only [Act.put, List.setIfInBounds_toArray, List.set_cons_zero, List.set_cons_succ, i64_w, i32_w]
            rfl
          refine take_ (i := 1) (N := some 4) (v := ?_) (a' := ?_) #[true, true, false, false, false, false, false, false, false, false, false, false, false, false, false, false, false, false, false, false] rfl rfl (take_ofW HT_.out HW_.out (by kernel_rfl)) (fun _ _ _ h => h) (Or.inl ⟨by rfl, ?_⟩) hHeld ?_ ?_
          rotate_left
          · rintro w' ⟨s0, s1, s2, s3, s4, s5⟩
            go_simp
            with_reducible rfl
          rotate_left
          · simp only [Act.put, List.setIfInBounds_toArray, List.set_cons_zero, List.set_cons_succ, i64_w, i32_w]
            rfl
          refine pure_ (i := 2) (N := some 5) (v := ?_) (a' := ?_) #[true, true, true, false, false, false, false, false, false, false, false, false, false, false, false, false, false, false, false, false] rfl rfl (any_of HT_.out (by kernel_rfl)) (fun _ _ _ h => h) (Or.inl ⟨by rfl, ?_⟩) ?_ ?_
          rotate_left
          · intro w'
            go_simp
            with_reducible rfl
          rotate_left
          · simp only [Act.put, List.setIfInBounds_toArray, List.set_cons_zero, List.set_cons_succ, i64_w, i32_w]
            rfl
          refine pure_ (i := 3) (N := some 6) (v := ?_) (a' := ?_) #[true, true, true, true, false, false, false, false, false, false, false, false, false, false, false, false, false, false, false, false] rfl rfl (any_of HT_.out (by kernel_rfl)) (fun _ _ _ h => h) (Or.inl ⟨by rfl, ?_⟩) ?_ ?_
          rotate_left
          · intro w'
            go_simp
            with_reducible rfl
          rotate_left
          · simp only [Act.put, List.setIfInBounds_toArray, List.set_cons_zero, List.set_cons_succ, i64_w, i32_w]
            rfl
          refine pure_ (i := 4) (N := some 7) (v := ?_) (a' := ?_) #[true, true, true, true, true, false, false, false, false, false, false, false, false, false, false, false, false, false, false, false] rfl rfl (any_of HT_.out (by kernel_rfl)) (fun _ _ _ h => h) (Or.inl ⟨by rfl, ?_⟩) ?_ ?_
          rotate_left
          · intro w'
            go_simp
            with_reducible rfl
          rotate_left
          · simp only [Act.put, List.setIfInBounds_toArray, List.set_cons_zero, List.set_cons_succ, i64_w, i32_w]
            rfl
          refine take_ (i := 5) (N := some 8) (v := ?_) (a' := ?_) #[true, true, true, true, true, true, false, false, false, false, false, false, false, false, false, false, false, false, false, false] rfl rfl (take_ofW HT_.out HW_.out (by kernel_rfl)) (fun _ _ _ h => h) (Or.inl ⟨by rfl, ?_⟩) hHeld ?_ ?_
          rotate_left
          · rintro w' ⟨s0, s1, s2, s3, s4, s5⟩
            go_simp
            with_reducible rfl
          rotate_left
          · simp only [Act.put, List.setIfInBounds_toArray, List.set_cons_zero, List.set_cons_succ, i64_w, i32_w]
            rfl
          refine pure_ (i := 6) (N := some 9) (v := ?_) (a' := ?_) #[true, true, true, true, true, true, true, false, false, false, false, false, false, false, false, false, false, false, false, false] rfl rfl (any_of HT_.out (by kernel_rfl)) (fun _ _ _ h => h) (Or.inl ⟨by rfl, ?_⟩) ?_ ?_
          rotate_left
          · intro w'
            go_simp
            with_reducible rfl
          rotate_left
          · simp only [Act.put, List.setIfInBounds_toArray, List.set_cons_zero, List.set_cons_succ, i64_w, i32_w]
            rfl
          refine pure_ (i := 7) (N := some 10) (v := ?_) (a' := ?_) #[true, true, true, true, true, true, true, true, false, false, false, false, false, false, false, false, false, false, false, false] rfl rfl (any_of HT_.out (by kernel_rfl)) (fun _ _ _ h => h) (Or.inl ⟨by rfl, ?_⟩) ?_ ?_
          rotate_left
          · intro w'
            go_simp
            with_reducible rfl
          rotate_left
          · simp only [Act.put, List.setIfInBounds_toArray, List.set_cons_zero, List.set_cons_succ, i64_w, i32_w]
            rfl
          refine pure_ (i := 8) (N := some 11) (v := ?_) (a' := ?_) #[true, true, true, true, true, true, true, true, true, false, false, false, false, false, false, false, false, false, false, false] rfl rfl (any_of HT_.out (by kernel_rfl)) (fun _ _ _ h => h) (Or.inl ⟨by rfl, ?_⟩) ?_ ?_
          rotate_left
          · intro w'
            go_simp
            with_reducible rfl
          rotate_left
          · simp only [Act.put, List.setIfInBounds_toArray, List.set_cons_zero, List.set_cons_succ, i64_w, i32_w]
            rfl
          refine pure_ (i := 9) (N := some 12) (v := ?_) (a' := ?_) #[true, true, true, true, true, true, true, true, true, true, false, false, false, false, false, false, false, false, false, false] rfl rfl (any_of HT_.out (by kernel_rfl)) (fun _ _ _ h => h) (Or.inl ⟨by rfl, ?_⟩) ?_ ?_
          rotate_left
          · intro w'
            go_simp
            with_reducible rfl
          rotate_left
          · simp only [Act.put, List.setIfInBounds_toArray, List.set_cons_zero, List.set_cons_succ, i64_w, i32_w]
            rfl
          refine take_ (i := 10) (N := some 13) (v := ?_) (a' := ?_) #[true, true, true, true, true, true, true, true, true, true, true, false, false, false, false, false, false, false, false, false] rfl rfl (take_ofW HT_.out HW_.out (by kernel_rfl)) (fun _ _ _ h => h) (Or.inl ⟨by rfl, ?_⟩) hHeld ?_ ?_
          rotate_left
          · rintro w' ⟨s0, s1, s2, s3, s4, s5⟩
            go_simp
            with_reducible rfl
          rotate_left
          · simp only [Act.put, List.setIfInBounds_toArray, List.set_cons_zero, List.set_cons_succ, i64_w, i32_w]
            rfl
          refine pure_ (i := 11) (N := some 14) (v := ?_) (a' := ?_) #[true, true, true, true, true, true, true, true, true, true, true, true, false, false, false, false, false, false, false, false] rfl rfl (any_of HT_.out (by kernel_rfl)) (fun _ _ _ h => h) (Or.inl ⟨by rfl, ?_⟩) ?_ ?_
          rotate_left
          · intro w'
            go_simp
            with_reducible rfl
          rotate_left
          · simp only [Act.put, List.setIfInBounds_toArray, List.set_cons_zero, List.set_cons_succ, i64_w, i32_w]
            rfl
          refine pure_ (i := 12) (N := some 15) (v := ?_) (a' := ?_) #[true, true, true, true, true, true, true, true, true, true, true, true, true, false, false, false, false, false, false, false] rfl rfl (any_of HT_.out (by kernel_rfl)) (fun _ _ _ h => h) (Or.inl ⟨by rfl, ?_⟩) ?_ ?_
          rotate_left
          · intro w'
            go_simp
            with_reducible rfl
          rotate_left
          · simp only [Act.put, List.setIfInBounds_toArray, List.set_cons_zero, List.set_cons_succ, i64_w, i32_w]
            rfl
          refine pure_ (i := 13) (N := some 16) (v := undef) (a' := ?_) #[true, true, true, true, true, true, true, true, true, true, true, true, true, true, false, false, false, false, false, false] rfl rfl (any_of HT_.out (by kernel_rfl)) (fun _ _ _ h => h) (Or.inr ⟨by rfl, rfl⟩) ?_ ?_
          rotate_left
          · simp only [Act.put, List.setIfInBounds_toArray, List.set_cons_zero, List.set_cons_succ, i64_w, i32_w]
            rfl
          refine pure_ (i := 14) (N := some 17) (v := undef) (a' := ?_) #[true, true, true, true, true, true, true, true, true, true, true, true, true, true, true, false, false, false, false, false] rfl rfl (any_of HT_.out (by kernel_rfl)) (fun _ _ _ h => h) (Or.inr ⟨by rfl, rfl⟩) ?_ ?_
          rotate_left
          · simp only [Act.put, List.setIfInBounds_toArray, List.set_cons_zero, List.set_cons_succ, i64_w, i32_w]
            rfl
          refine pure_ (i := 15) (N := some 18) (v := undef) (a' := ?_) #[true, true, true, true, true, true, true, true, true, true, true, true, true, true, true, true, false, false, false, false] rfl rfl (any_of HT_.out (by kernel_rfl)) (fun _ _ _ h => h) (Or.inr ⟨by rfl, rfl⟩) ?_ ?_
          rotate_left
          · simp only [Act.put, List.setIfInBounds_toArray, List.set_cons_zero, List.set_cons_succ, i64_w, i32_w]
            rfl
          refine pure_ (i := 16) (N := some 19) (v := undef) (a' := ?_) #[true, true, true, true, true, true, true, true, true, true, true, true, true, true, true, true, true, false, false, false] rfl rfl (any_of HT_.out (by kernel_rfl)) (fun _ _ _ h => h) (Or.inr ⟨by rfl, rfl⟩) ?_ ?_
          rotate_left
          · simp only [Act.put, List.setIfInBounds_toArray, List.set_cons_zero, List.set_cons_succ, i64_w, i32_w]
            rfl
          refine pure_ (i := 17) (N := some 20) (v := undef) (a' := ?_) #[true, true, true, true, true, true, true, true, true, true, true, true, true, true, true, true, true, true, false, false] rfl rfl (any_of HT_.out (by kernel_rfl)) (fun _ _ _ h => h) (Or.inr ⟨by rfl, rfl⟩) ?_ ?_
          rotate_left
          · simp only [Act.put, List.setIfInBounds_toArray, List.set_cons_zero, List.set_cons_succ, i64_w, i32_w]
            rfl
          refine pure_ (i := 18) (N := some 21) (v := ?_) (a' := ?_) #[true, true, true, true, true, true, true, true, true, true, true, true, true, true, true, true, true, true, true, false] rfl rfl (any_of HT_.out (by kernel_rfl)) (fun _ _ _ h => h) (Or.inl ⟨by rfl, ?_⟩) ?_ ?_
          rotate_left
          · intro w'
            go_simp
            with_reducible rfl
          rotate_left
          · simp only [Act.put, List.setIfInBounds_toArray, List.set_cons_zero, List.set_cons_succ, i64_w, i32_w]
            rfl
          refine pure_ (i := 19) (N := some 22) (v := ?_) (a' := ?_) #[true, true, true, true, true, true, true, true, true, true, true, true, true, true, true, true, true, true, true, true] rfl rfl (any_of HT_.out (by kernel_rfl)) (fun _ _ _ h => h) (Or.inl ⟨by rfl, ?_⟩) ?_ ?_
          rotate_left
          · intro w'
            go_simp
            with_reducible rfl
          rotate_left
          · simp only [Act.put, List.setIfInBounds_toArray, List.set_cons_zero, List.set_cons_succ, i64_w, i32_w]
            rfl
          refine done_ (done_of HT_.out (by kernel_rfl)) ?_
          try go_wp2
          go_meet
          case rel => exact ⟨_, (false), (by first | rfl | (simp; done) | (simp [*]; done)), H', ⟨by first | omega | exact Nat.le_refl _⟩, ⟨by (with_reducible repeat (first | refine blk_drewN ?_ _ | refine blk_drew ?_ | refine blk_alloc ?_ _)); exact BK155.out⟩, ⟨by repeat (first | (with_reducible first | exact HB.out | apply below_alloc | apply pw_below_drewN | apply below_drew1 | refine below_set ?_ GE155.out) | exact HB.out)⟩⟩
        · rw [if_neg c8] at H
          have c8b0 : (a0_0 == 1) = false := beq_eq_false_iff_ne.mpr c8
          have c8b1 : (a0_0 != 1) = true := bne_iff_ne.mpr c8
          replace H := Option.bind_eq_some_iff.mp H
          obtain ⟨⟨t156, t157, t158, t159, t160, t161⟩, A100, H⟩ := H
          replace H : ((record_same.f k a0_0 a0_1 a0_2 a0_3 a0_4 l0_5 t156 t157 t158 t159 t160 t161).bind fun t164 => (record_May.j0 k (!t164) a0_0 a0_1 a0_2 a0_3 a0_4 l0_5)) = some r := H
          have A10 := Aside0.mk A100
          clear A100
          replace H := Option.bind_eq_some_iff.mp H
          obtain ⟨t164, A110, H⟩ := H
          replace H : (record_May.j0 k (!t164) a0_0 a0_1 a0_2 a0_3 a0_4 l0_5) = some r := H
          have A11 := Aside0.mk A110
          clear A110
          have H' := Aside0.mk H
          clear H
          try go_wp2
          have n0_ := Aside0.mk (blk_drew BK155.out)
          have n1_ := Aside0.mk (below_drew1 HB.out)
          clear BK155
          clear HB
          have BK155 := n0_
          have HB := n1_
          clear n0_ n1_
          refine start_ (n := 20) (S := fun w' => w'.cell? ⟨gb155, 0, none⟩ = some (.int .i64 a0_0) ∧ w'.cell? ⟨gb155, 1, none⟩ = some (.int .i64 a0_1) ∧ w'.cell? ⟨gb155, 2, none⟩ = some (.int .i64 a0_2) ∧ w'.cell? ⟨gb155, 3, none⟩ = some (.string a0_3) ∧ w'.cell? ⟨gb155, 4, none⟩ = some (.string a0_4) ∧ w'.cell? ⟨gb155, 5, none⟩ = some (.slice A0_5 l0_5.length c0_5)) (ds := []) #[false, false, false, false, false, false, false, false, false, false, false, false, false, false, false, false, false, false, false, false] (by kernel_rfl) rfl rfl ⟨(blk_cell BK155.out 0).trans rfl, (blk_cell BK155.out 1).trans rfl, (blk_cell BK155.out 2).trans rfl, (blk_cell BK155.out 3).trans rfl, (blk_cell BK155.out 4).trans rfl, (blk_cell BK155.out 5).trans rfl⟩ (fun hHeld => ?_); refine with_tabW record_May.tab1 record_May.bits1 (fun HT_ HW_ => ?_)
          generalize w3.drew = w12 at BK155 HB hHeld ⊢
          refine pure_ (i := 0) (N := some 3) (v := ?_) (a' := ?_) #[true, false, false, false, false, false, false, false, false, false, false, false, false, false, false, false, false, false, false, false] rfl rfl (any_of HT_.out (by kernel_rfl)) (fun _ _ _ h => h) (Or.inl ⟨by rfl, ?_⟩) ?_ ?_
          rotate_left
          · intro w'
            go_simp
            with_reducible rfl
          rotate_left
          · simp only [Act.put, List.setIfInBounds_toArray, List.set_cons_zero, List.set_cons_succ, i64_w, i32_w]
            rfl
          refine take_ (i := 1) (N := some 4) (v := ?_) (a' := ?_) #[true, true, false, false, false, false, false, false, false, false, false, false, false, false, false, false, false, false, false, false] rfl rfl (take_ofW HT_.out HW_.out (by kernel_rfl)) (fun _ _ _ h => h) (Or.inl ⟨by rfl, ?_⟩) hHeld ?_ ?_
          rotate_left
          · rintro w' ⟨s0, s1, s2, s3, s4, s5⟩
            go_simp
            with_reducible rfl
          rotate_left
          · simp only [Act.put, List.setIfInBounds_toArray, List.set_cons_zero, List.set_cons_succ, i64_w, i32_w]
            rfl
          refine pure_ (i := 2) (N := some 5) (v := ?_) (a' := ?_) #[true, true, true, false, false, false, false, false, false, false, false, false, false, false, false, false, false, false, false, false] rfl rfl (any_of HT_.out (by kernel_rfl)) (fun _ _ _ h => h) (Or.inl ⟨by rfl, ?_⟩) ?_ ?_
          rotate_left
          · intro w'
            go_simp
            with_reducible rfl
          rotate_left
          · simp only [Act.put, List.setIfInBounds_toArray, List.set_cons_zero, List.set_cons_succ, i64_w, i32_w]
            rfl
          refine pure_ (i := 3) (N := some 6) (v := ?_) (a' := ?_) #[true, true, true, true, false, false, false, false, false, false, false, false, false, false, false, false, false, false, false, false] rfl rfl (any_of HT_.out (by kernel_rfl)) (fun _ _ _ h => h) (Or.inl ⟨by rfl, ?_⟩) ?_ ?_
          rotate_left
          · intro w'
            go_simp
            with_reducible rfl
          rotate_left
          · simp only [Act.put, List.setIfInBounds_toArray, List.set_cons_zero, List.set_cons_succ, i64_w, i32_w]
            rfl
          refine pure_ (i := 4) (N := some 7) (v := ?_) (a' := ?_) #[true, true, true, true, true, false, false, false, false, false, false, false, false, false, false, false, false, false, false, false] rfl rfl (any_of HT_.out (by kernel_rfl)) (fun _ _ _ h => h) (Or.inl ⟨by rfl, ?_⟩) ?_ ?_
          rotate_left
          · intro w'
            go_simp
            with_reducible rfl
          rotate_left
          · simp only [Act.put, List.setIfInBounds_toArray, List.set_cons_zero, List.set_cons_succ, i64_w, i32_w]
            rfl
          refine take_ (i := 5) (N := some 8) (v := ?_) (a' := ?_) #[true, true, true, true, true, true, false, false, false, false, false, false, false, false, false, false, false, false, false, false] rfl rfl (take_ofW HT_.out HW_.out (by kernel_rfl)) (fun _ _ _ h => h) (Or.inl ⟨by rfl, ?_⟩) hHeld ?_ ?_
          rotate_left
          · rintro w' ⟨s0, s1, s2, s3, s4, s5⟩
            go_simp
            with_reducible rfl
          rotate_left
          · simp only [Act.put, List.setIfInBounds_toArray, List.set_cons_zero, List.set_cons_succ, i64_w, i32_w]
            rfl
          refine pure_ (i := 6) (N := some 9) (v := ?_) (a' := ?_) #[true, true, true, true, true, true, true, false, false, false, false, false, false, false, false, false, false, false, false, false] rfl rfl (any_of HT_.out (by kernel_rfl)) (fun _ _ _ h => h) (Or.inl ⟨by rfl, ?_⟩) ?_ ?_
          rotate_left
          · intro w'
            go_simp
            with_reducible rfl
          rotate_left
          · simp only [Act.put, List.setIfInBounds_toArray, List.set_cons_zero, List.set_cons_succ, i64_w, i32_w]
            rfl
          refine pure_ (i := 7) (N := some 10) (v := ?_) (a' := ?_) #[true, true, true, true, true, true, true, true, false, false, false, false, false, false, false, false, false, false, false, false] rfl rfl (any_of HT_.out (by kernel_rfl)) (fun _ _ _ h => h) (Or.inl ⟨by rfl, ?_⟩) ?_ ?_
          rotate_left
          · intro w'
            go_simp
            with_reducible rfl
          rotate_left
          · simp only [Act.put, List.setIfInBounds_toArray, List.set_cons_zero, List.set_cons_succ, i64_w, i32_w]
            rfl
          refine pure_ (i := 8) (N := some 11) (v := ?_) (a' := ?_) #[true, true, true, true, true, true, true, true, true, false, false, false, false, false, false, false, false, false, false, false] rfl rfl (any_of HT_.out (by kernel_rfl)) (fun _ _ _ h => h) (Or.inl ⟨by rfl, ?_⟩) ?_ ?_
          rotate_left
          · intro w'
            go_simp
            with_reducible rfl
          rotate_left
          · simp only [Act.put, List.setIfInBounds_toArray, List.set_cons_zero, List.set_cons_succ, i64_w, i32_w]
            rfl
          refine pure_ (i := 9) (N := some 12) (v := ?_) (a' := ?_) #[true, true, true, true, true, true, true, true, true, true, false, false, false, false, false, false, false, false, false, false] rfl rfl (any_of HT_.out (by kernel_rfl)) (fun _ _ _ h => h) (Or.inl ⟨by rfl, ?_⟩) ?_ ?_
          rotate_left
          · intro w'
            go_simp
            with_reducible rfl
          rotate_left
          · simp only [Act.put, List.setIfInBounds_toArray, List.set_cons_zero, List.set_cons_succ, i64_w, i32_w]
            rfl
          refine take_ (i := 10) (N := some 13) (v := ?_) (a' := ?_) #[true, true, true, true, true, true, true, true, true, true, true, false, false, false, false, false, false, false, false, false] rfl rfl (take_ofW HT_.out HW_.out (by kernel_rfl)) (fun _ _ _ h => h) (Or.inl ⟨by rfl, ?_⟩) hHeld ?_ ?_
          rotate_left
          · rintro w' ⟨s0, s1, s2, s3, s4, s5⟩
            go_simp
            with_reducible rfl
          rotate_left
          · simp only [Act.put, List.setIfInBounds_toArray, List.set_cons_zero, List.set_cons_succ, i64_w, i32_w]
            rfl
          refine pure_ (i := 11) (N := some 14) (v := ?_) (a' := ?_) #[true, true, true, true, true, true, true, true, true, true, true, true, false, false, false, false, false, false, false, false] rfl rfl (any_of HT_.out (by kernel_rfl)) (fun _ _ _ h => h) (Or.inl ⟨by rfl, ?_⟩) ?_ ?_
          rotate_left
          · intro w'
            go_simp
            with_reducible rfl
          rotate_left
          · simp only [Act.put, List.setIfInBounds_toArray, List.set_cons_zero, List.set_cons_succ, i64_w, i32_w]
            rfl
          refine pure_ (i := 12) (N := some 15) (v := ?_) (a' := ?_) #[true, true, true, true, true, true, true, true, true, true, true, true, true, false, false, false, false, false, false, false] rfl rfl (any_of HT_.out (by kernel_rfl)) (fun _ _ _ h => h) (Or.inl ⟨by rfl, ?_⟩) ?_ ?_
          rotate_left
          · intro w'
            go_simp
            with_reducible rfl
          rotate_left
          · simp only [Act.put, List.setIfInBounds_toArray, List.set_cons_zero, List.set_cons_succ, i64_w, i32_w]
            rfl
          refine take_ (i := 13) (N := some 16) (v := ?_) (a' := ?_) #[true, true, true, true, true, true, true, true, true, true, true, true, true, true, false, false, false, false, false, false] rfl rfl (take_ofW HT_.out HW_.out (by kernel_rfl)) (fun _ _ _ h => h) (Or.inl ⟨by rfl, ?_⟩) hHeld ?_ ?_
          rotate_left
          · rintro w' ⟨s0, s1, s2, s3, s4, s5⟩
            go_simp
            with_reducible rfl
          rotate_left
          · simp only [Act.put, List.setIfInBounds_toArray, List.set_cons_zero, List.set_cons_succ, i64_w, i32_w]
            rfl
          refine take_ (i := 14) (N := some 17) (v := ?_) (a' := ?_) #[true, true, true, true, true, true, true, true, true, true, true, true, true, true, true, false, false, false, false, false] rfl rfl (take_ofW HT_.out HW_.out (by kernel_rfl)) (fun _ _ _ h => h) (Or.inl ⟨by rfl, ?_⟩) hHeld ?_ ?_
          rotate_left
          · rintro w' ⟨s0, s1, s2, s3, s4, s5⟩
            go_simp
            with_reducible rfl
          rotate_left
          · simp only [Act.put, List.setIfInBounds_toArray, List.set_cons_zero, List.set_cons_succ, i64_w, i32_w]
            rfl
          refine one_ (i := 15) (N := some 18) #[true, true, true, true, true, true, true, true, true, true, true, true, true, true, true, true, false, false, false, false] rfl rfl (one_of HT_.out (by kernel_rfl)) (by decide) (fun K hK => ?_)
          refine goes_ Try.func51 (by kernel_rfl) rfl #[.agg #[.int .i64 a0_0, .int .i64 a0_1, .int .i64 a0_2, .string a0_3, .string a0_4, .slice A0_5 l0_5.length c0_5]] (by rfl) rfl rfl (by (try simp only [List.map_toArray, List.map_cons, List.map_nil]); first | done | rfl | (simp only [List.length_drop, List.length_take]; rfl)) ?_
          with_reducible refine (record_bare.calls a0_0 a0_1 a0_2 a0_3 a0_4 _ _ l0_5 t156 t157 t158 t159 t160 t161 _ ?side1 ?side2 A10.out).mono ?_
          (case side1 => repeat (first | exact (Kd.C_below HR0_5.out HB.out) | (with_reducible refine Kd.C_alloc ?_ _) | (with_reducible refine Kd.C_drewN ?_ _) | (with_reducible refine Kd.C_drew ?_)))
          (case side2 => exact HC0_5.out)
          rintro e w13 ⟨v162, rfl, ho0, hb⟩
          refine ⟨_, rfl, ?_⟩
          have n0_ := Aside0.mk (Kd.R_lower ho0 (below_size (by repeat (first | (with_reducible first | exact HB.out | apply below_alloc | apply pw_below_drewN | apply below_drew1 | refine below_set ?_ GE155.out) | exact HB.out))))
          have n1_ := Aside0.mk (blk_below (g := gb155) (o := .cells #[.int .i64 a0_0, .int .i64 a0_1, .int .i64 a0_2, .string a0_3, .string a0_4, .slice A0_5 l0_5.length c0_5] 42 (0, 0)) (by (with_reducible repeat (first | refine blk_drewN ?_ _ | refine blk_drew ?_ | refine blk_alloc ?_ _)); exact BK155.out) hb)
          have n2_ := Aside0.mk (below_step (by repeat (first | (with_reducible first | exact HB.out | apply below_alloc | apply pw_below_drewN | apply below_drew1 | refine below_set ?_ GE155.out) | exact HB.out)) hb)
          clear BK155
          clear HB
          have HO163 := n0_
          have BK155 := n1_
          have HB := n2_
          clear n0_ n1_ n2_
          (try clear hb)
          (try clear hb2)
          (try clear hk)
          (try clear hi)
          (try clear ho0)
          obtain ⟨Ao14, co14, eo14⟩ := Kd.R_slice HO163.out
          (first | subst eo14 | (injection eo14 with f1_ f2_ f3_; have f4_ := f1_.symm; have f5_ := f3_.symm; clear f1_ f2_ f3_; subst f4_; subst f5_))
          refine hK.out _ _ ⟨(blk_cell BK155.out 0).trans rfl, (blk_cell BK155.out 1).trans rfl, (blk_cell BK155.out 2).trans rfl, (blk_cell BK155.out 3).trans rfl, (blk_cell BK155.out 4).trans rfl, (blk_cell BK155.out 5).trans rfl⟩ (fun hHeld => ?_)
          clear hK K
          refine norm_ (a' := ?_) ?_ ?_
          rotate_left
          · show Act.put _ (some 18) _ = _
            simp only [Act.put, List.setIfInBounds_toArray, List.set_cons_zero, List.set_cons_succ, i64_w, i32_w]
            rfl
          refine one_ (i := 16) (N := some 19) #[true, true, true, true, true, true, true, true, true, true, true, true, true, true, true, true, true, false, false, false] rfl rfl (one_of HT_.out (by kernel_rfl)) (by decide) (fun K hK => ?_)
          refine goes_ Try.func50 (by kernel_rfl) rfl #[.agg #[.int .i64 a0_0, .int .i64 a0_1, .int .i64 a0_2, .string a0_3, .string a0_4, .slice A0_5 l0_5.length c0_5], .agg #[.int .i64 t156, .int .i64 t157, .int .i64 t158, .string t159, .string t160, .slice Ao14 t161.length co14]] (by rfl) rfl rfl (by (try simp only [List.map_toArray, List.map_cons, List.map_nil]); first | done | rfl | (simp only [List.length_drop, List.length_take]; rfl)) ?_
          with_reducible refine (record_same.calls k a0_0 a0_1 a0_2 a0_3 a0_4 _ _ l0_5 t156 t157 t158 t159 t160 _ _ t161 t164 _ ?side1 ?side2 ?side3 ?side4 A11.out).mono ?_
          (case side1 => repeat (first | exact (Kd.C_below HR0_5.out HB.out) | (with_reducible refine Kd.C_alloc ?_ _) | (with_reducible refine Kd.C_drewN ?_ _) | (with_reducible refine Kd.C_drew ?_)))
          (case side2 => exact HC0_5.out)
          (case side3 => repeat (first | exact (Kd.R_reads' HO163.out).2.2 | (with_reducible refine Kd.C_alloc ?_ _) | (with_reducible refine Kd.C_drewN ?_ _) | (with_reducible refine Kd.C_drew ?_)))
          (case side4 => exact (Kd.R_reads' HO163.out).2.1)
          rintro e w15 ⟨rfl, hb⟩
          refine ⟨_, rfl, ?_⟩
          have n0_ := Aside0.mk (Kd.R_below (by (with_reducible repeat (first | apply Kd.R_alloc | apply Kd.R_drewN | apply Kd.R_drew)); exact HO163.out) hb)
          have n1_ := Aside0.mk (blk_below (g := gb155) (o := .cells #[.int .i64 a0_0, .int .i64 a0_1, .int .i64 a0_2, .string a0_3, .string a0_4, .slice A0_5 l0_5.length c0_5] 42 (0, 0)) (by (with_reducible repeat (first | refine blk_drewN ?_ _ | refine blk_drew ?_ | refine blk_alloc ?_ _)); exact BK155.out) hb)
          have n2_ := Aside0.mk (below_step (by repeat (first | (with_reducible first | exact HB.out | apply below_alloc | apply pw_below_drewN | apply below_drew1 | refine below_set ?_ GE155.out) | exact HB.out)) hb)
          clear HO163
          clear BK155
          clear HB
          have HO163 := n0_
          have BK155 := n1_
          have HB := n2_
          clear n0_ n1_ n2_
          (try clear hb)
          (try clear hb2)
          (try clear hk)
          (try clear hi)
          refine hK.out _ _ ⟨(blk_cell BK155.out 0).trans rfl, (blk_cell BK155.out 1).trans rfl, (blk_cell BK155.out 2).trans rfl, (blk_cell BK155.out 3).trans rfl, (blk_cell BK155.out 4).trans rfl, (blk_cell BK155.out 5).trans rfl⟩ (fun hHeld => ?_)
          clear hK K
          refine norm_ (a' := ?_) ?_ ?_
          rotate_left
          · show Act.put _ (some 19) _ = _
            simp only [Act.put, List.setIfInBounds_toArray, List.set_cons_zero, List.set_cons_succ, i64_w, i32_w]
            rfl
          refine pure_ (i := 17) (N := some 20) (v := ?_) (a' := ?_) #[true, true, true, true, true, true, true, true, true, true, true, true, true, true, true, true, true, true, false, false] rfl rfl (any_of HT_.out (by kernel_rfl)) (fun _ _ _ h => h) (Or.inl ⟨by rfl, ?_⟩) ?_ ?_
          rotate_left
          · intro w'
            go_simp
            with_reducible rfl
          rotate_left
          · simp only [Act.put, List.setIfInBounds_toArray, List.set_cons_zero, List.set_cons_succ, i64_w, i32_w]
            rfl
          refine pure_ (i := 18) (N := some 21) (v := ?_) (a' := ?_) #[true, true, true, true, true, true, true, true, true, true, true, true, true, true, true, true, true, true, true, false] rfl rfl (any_of HT_.out (by kernel_rfl)) (fun _ _ _ h => h) (Or.inl ⟨by rfl, ?_⟩) ?_ ?_
          rotate_left
          · intro w'
            go_simp
            with_reducible rfl
          rotate_left
          · simp only [Act.put, List.setIfInBounds_toArray, List.set_cons_zero, List.set_cons_succ, i64_w, i32_w]
            rfl
          refine pure_ (i := 19) (N := some 22) (v := ?_) (a' := ?_) #[true, true, true, true, true, true, true, true, true, true, true, true, true, true, true, true, true, true, true, true] rfl rfl (any_of HT_.out (by kernel_rfl)) (fun _ _ _ h => h) (Or.inl ⟨by rfl, ?_⟩) ?_ ?_
          rotate_left
          · intro w'
            go_simp
            with_reducible rfl
          rotate_left
          · simp only [Act.put, List.setIfInBounds_toArray, List.set_cons_zero, List.set_cons_succ, i64_w, i32_w]
            rfl
          refine done_ (done_of HT_.out (by kernel_rfl)) ?_
          try go_wp2
          go_meet
          case rel => exact ⟨_, (!t164), (by first | rfl | (simp; done) | (simp [*]; done)), H', ⟨by first | omega | exact Nat.le_refl _⟩, ⟨by (with_reducible repeat (first | refine blk_drewN ?_ _ | refine blk_drew ?_ | refine blk_alloc ?_ _)); exact BK155.out⟩, ⟨by repeat (first | (with_reducible first | exact HB.out | apply below_alloc | apply pw_below_drewN | apply below_drew1 | refine below_set ?_ GE155.out) | exact HB.out)⟩⟩
  case rest =>
    clear HC2
    try clear p2
    try clear c4
    try clear c4b0
    try clear c5
    try clear c6
    try clear c6b0
    try clear c8
    try clear c8b0
    try clear c8b1
    obtain ⟨kq, x22_1, rfl, HA, HJ1, BK155, HB⟩ := hcut
    cases kq with
    | zero => exact absurd HA.out (by simp [record_May.j0])
    | succ kj1 =>
      have H := HA.out
      clear HA
      simp only [record_May.j0] at H
      by_cases c16 : x22_1 = true
      · subst c16
        have H1 : (some false) = some r := by rw [if_pos rfl] at H; exact H
        clear H
        have H := H1
        clear H1
        obtain rfl := Option.some.inj H
        go_wp2
        go_ret
        exact ⟨by first | rfl | (simp [errW_none, errW_some] <;> rfl) | (simp [*, errW_none, errW_some] <;> rfl), by repeat (first | (with_reducible first | exact HB.out | apply below_alloc | apply pw_below_drewN | apply below_drew1 | refine below_set ?_ GE155.out) | exact HB.out)⟩
      · replace c16 := Bool.eq_false_iff.mpr c16
        subst c16
        have H1 : (if a0_0 = 1 then (if a0_2 = 0 then (if a0_3.toList = ([] : List UInt8) then (some false) else ((json_Short.f a0_3).bind fun t165 => (if t165 = true then (if (a0_4.size : Int) ≥ 1 then (if (a0_4.size : Int) ≤ 3000 then ((plan_May.f l0_5).bind fun t166 => (some t166)) else (some false)) else (some false)) else (some false)))) else (some false)) else (if a0_0 = 2 then (record_May.j1 kj1 a0_0 (a0_0 == 2) a0_0 a0_1 a0_2 a0_3 a0_4 l0_5) else (if a0_0 = 3 then (record_May.j1 kj1 a0_0 (a0_0 == 3) a0_0 a0_1 a0_2 a0_3 a0_4 l0_5) else (record_May.j1 kj1 a0_0 (a0_0 == 5) a0_0 a0_1 a0_2 a0_3 a0_4 l0_5)))) = some r := by rw [if_neg (show ¬ (false = true) by decide)] at H; exact H
        clear H
        have H := H1
        clear H1
        by_cases c17 : a0_0 = 1
        · rw [if_pos c17] at H
          have c17b0 : (a0_0 == 1) = true := beq_iff_eq.mpr c17
          have c17b1 : (a0_0 != 1) = false := bne_eq_false_iff_eq.mpr c17
          clear c17
          by_cases c18 : a0_2 = 0
          · rw [if_pos c18] at H
            have c18b0 : (a0_2 == 0) = true := beq_iff_eq.mpr c18
            have c18b1 : (a0_2 != 0) = false := bne_eq_false_iff_eq.mpr c18
            clear c18
            by_cases c19 : a0_3.toList = ([] : List UInt8)
            · rw [if_pos c19] at H
              have c19b0 : (a0_3.toList == ([] : List UInt8)) = true := beq_iff_eq.mpr c19
              have c19b1 : (a0_3.toList != ([] : List UInt8)) = false := bne_eq_false_iff_eq.mpr c19
              clear c19
              obtain rfl := Option.some.inj H
              have hcz20_0 : wc.cell? ⟨gb155, 0, none⟩ = some (.int .i64 a0_0) := (blk_cell BK155.out 0).trans rfl
              have hcz20_1 : wc.cell? ⟨gb155, 1, none⟩ = some (.int .i64 a0_1) := (blk_cell BK155.out 1).trans rfl
              have hcz20_2 : wc.cell? ⟨gb155, 2, none⟩ = some (.int .i64 a0_2) := (blk_cell BK155.out 2).trans rfl
              have hcz20_3 : wc.cell? ⟨gb155, 3, none⟩ = some (.string a0_3) := (blk_cell BK155.out 3).trans rfl
              have hcz20_4 : wc.cell? ⟨gb155, 4, none⟩ = some (.string a0_4) := (blk_cell BK155.out 4).trans rfl
              have hcz20_5 : wc.cell? ⟨gb155, 5, none⟩ = some (.slice A0_5 l0_5.length c0_5) := (blk_cell BK155.out 5).trans rfl
              have hfz20_0 := blk_frozen BK155.out 0
              have hfz20_1 := blk_frozen BK155.out 1
              have hfz20_2 := blk_frozen BK155.out 2
              have hfz20_3 := blk_frozen BK155.out 3
              have hfz20_4 := blk_frozen BK155.out 4
              have hfz20_5 := blk_frozen BK155.out 5
              go_wp2
              go_ret
              exact ⟨by first | rfl | (simp [errW_none, errW_some] <;> rfl) | (simp [*, errW_none, errW_some] <;> rfl), by repeat (first | (with_reducible first | exact HB.out | apply below_alloc | apply pw_below_drewN | apply below_drew1 | refine below_set ?_ GE155.out) | exact HB.out)⟩
            · rw [if_neg c19] at H
              have c19b0 : (a0_3.toList == ([] : List UInt8)) = false := beq_eq_false_iff_ne.mpr c19
              have c19b1 : (a0_3.toList != ([] : List UInt8)) = true := bne_iff_ne.mpr c19
              replace H := Option.bind_eq_some_iff.mp H
              obtain ⟨t165, A210, H⟩ := H
              replace H : (if t165 = true then (if (a0_4.size : Int) ≥ 1 then (if (a0_4.size : Int) ≤ 3000 then ((plan_May.f l0_5).bind fun t166 => (some t166)) else (some false)) else (some false)) else (some false)) = some r := H
              have A21 := Aside0.mk A210
              clear A210
              by_cases c22 : t165 = true
              · subst c22
                have H1 : (if (a0_4.size : Int) ≥ 1 then (if (a0_4.size : Int) ≤ 3000 then ((plan_May.f l0_5).bind fun t166 => (some t166)) else (some false)) else (some false)) = some r := by rw [if_pos rfl] at H; exact H
                clear H
                have H := H1
                clear H1
                by_cases c23 : (a0_4.size : Int) ≥ 1
                · rw [if_pos c23] at H
                  have c23b0 : decide (1 ≤ (a0_4.size : Int)) = true := decide_eq_true c23
                  have c23b1 : decide (1 ≤ a0_4.size) = true := decide_eq_true (by omega)
                  clear c23
                  by_cases c24 : (a0_4.size : Int) ≤ 3000
                  · rw [if_pos c24] at H
                    have c24b0 : decide ((a0_4.size : Int) ≤ 3000) = true := decide_eq_true c24
                    have c24b1 : decide (a0_4.size ≤ 3000) = true := decide_eq_true (by omega)
                    clear c24
                    replace H := Option.bind_eq_some_iff.mp H
                    obtain ⟨t166, A250, H⟩ := H
                    replace H : (some t166) = some r := H
                    have A25 := Aside0.mk A250
                    clear A250
                    obtain rfl := Option.some.inj H
                    have hcz26_0 : wc.cell? ⟨gb155, 0, none⟩ = some (.int .i64 a0_0) := (blk_cell BK155.out 0).trans rfl
                    have hcz26_1 : wc.cell? ⟨gb155, 1, none⟩ = some (.int .i64 a0_1) := (blk_cell BK155.out 1).trans rfl
                    have hcz26_2 : wc.cell? ⟨gb155, 2, none⟩ = some (.int .i64 a0_2) := (blk_cell BK155.out 2).trans rfl
                    have hcz26_3 : wc.cell? ⟨gb155, 3, none⟩ = some (.string a0_3) := (blk_cell BK155.out 3).trans rfl
                    have hcz26_4 : wc.cell? ⟨gb155, 4, none⟩ = some (.string a0_4) := (blk_cell BK155.out 4).trans rfl
                    have hcz26_5 : wc.cell? ⟨gb155, 5, none⟩ = some (.slice A0_5 l0_5.length c0_5) := (blk_cell BK155.out 5).trans rfl
                    have hfz26_0 := blk_frozen BK155.out 0
                    have hfz26_1 := blk_frozen BK155.out 1
                    have hfz26_2 := blk_frozen BK155.out 2
                    have hfz26_3 := blk_frozen BK155.out 3
                    have hfz26_4 := blk_frozen BK155.out 4
                    have hfz26_5 := blk_frozen BK155.out 5
                    go_wp2_with (first | (go_at_call 52; (with_reducible refine (json_Short.calls a0_3 true _ A21.out).mono ?_); rintro e w27 ⟨rfl, hb⟩; have n0_ := Aside0.mk (blk_below (g := gb155) (o := .cells #[.int .i64 a0_0, .int .i64 a0_1, .int .i64 a0_2, .string a0_3, .string a0_4, .slice A0_5 l0_5.length c0_5] 42 (0, 0)) (by (with_reducible repeat (first | refine blk_drewN ?_ _ | refine blk_drew ?_ | refine blk_alloc ?_ _)); exact BK155.out) hb); have n1_ := Aside0.mk (below_step (by repeat (first | (with_reducible first | exact HB.out | apply below_alloc | apply pw_below_drewN | apply below_drew1 | refine below_set ?_ GE155.out) | exact HB.out)) hb); clear BK155; clear HB; have BK155 := n0_; have HB := n1_; clear n0_ n1_; (try clear hb); (try clear hb2); (try clear hk); (try clear hi); have hcz28_0 : w27.cell? ⟨gb155, 0, none⟩ = some (.int .i64 a0_0) := (blk_cell BK155.out 0).trans rfl; have hcz28_1 : w27.cell? ⟨gb155, 1, none⟩ = some (.int .i64 a0_1) := (blk_cell BK155.out 1).trans rfl; have hcz28_2 : w27.cell? ⟨gb155, 2, none⟩ = some (.int .i64 a0_2) := (blk_cell BK155.out 2).trans rfl; have hcz28_3 : w27.cell? ⟨gb155, 3, none⟩ = some (.string a0_3) := (blk_cell BK155.out 3).trans rfl; have hcz28_4 : w27.cell? ⟨gb155, 4, none⟩ = some (.string a0_4) := (blk_cell BK155.out 4).trans rfl; have hcz28_5 : w27.cell? ⟨gb155, 5, none⟩ = some (.slice A0_5 l0_5.length c0_5) := (blk_cell BK155.out 5).trans rfl; have hfz28_0 := blk_frozen BK155.out 0; have hfz28_1 := blk_frozen BK155.out 1; have hfz28_2 := blk_frozen BK155.out 2; have hfz28_3 := blk_frozen BK155.out 3; have hfz28_4 := blk_frozen BK155.out 4; have hfz28_5 := blk_frozen BK155.out 5) | (go_at_call 53; (with_reducible refine (plan_May.calls _ _ l0_5 t166 _ ?side1 ?side2 A25.out).mono ?_); (case side1 => repeat (first | exact (Kd.C_below HR0_5.out HB.out) | (with_reducible refine Kd.C_alloc ?_ _) | (with_reducible refine Kd.C_drewN ?_ _) | (with_reducible refine Kd.C_drew ?_))); (case side2 => exact HC0_5.out); rintro e w29 ⟨rfl, hb⟩; have n0_ := Aside0.mk (blk_below (g := gb155) (o := .cells #[.int .i64 a0_0, .int .i64 a0_1, .int .i64 a0_2, .string a0_3, .string a0_4, .slice A0_5 l0_5.length c0_5] 42 (0, 0)) (by (with_reducible repeat (first | refine blk_drewN ?_ _ | refine blk_drew ?_ | refine blk_alloc ?_ _)); exact BK155.out) hb); have n1_ := Aside0.mk (below_step (by repeat (first | (with_reducible first | exact HB.out | apply below_alloc | apply pw_below_drewN | apply below_drew1 | refine below_set ?_ GE155.out) | exact HB.out)) hb); clear BK155; clear HB; have BK155 := n0_; have HB := n1_; clear n0_ n1_; (try clear hb); (try clear hb2); (try clear hk); (try clear hi)))
                    go_ret
                    exact ⟨by first | rfl | (simp [errW_none, errW_some] <;> rfl) | (simp [*, errW_none, errW_some] <;> rfl), by repeat (first | (with_reducible first | exact HB.out | apply below_alloc | apply pw_below_drewN | apply below_drew1 | refine below_set ?_ GE155.out) | exact HB.out)⟩
                  · rw [if_neg c24] at H
                    have c24b0 : decide ((a0_4.size : Int) ≤ 3000) = false := decide_eq_false c24
                    have c24b1 : decide (a0_4.size ≤ 3000) = false := decide_eq_false (by omega)
                    clear c24
                    obtain rfl := Option.some.inj H
                    have hcz30_0 : wc.cell? ⟨gb155, 0, none⟩ = some (.int .i64 a0_0) := (blk_cell BK155.out 0).trans rfl
                    have hcz30_1 : wc.cell? ⟨gb155, 1, none⟩ = some (.int .i64 a0_1) := (blk_cell BK155.out 1).trans rfl
                    have hcz30_2 : wc.cell? ⟨gb155, 2, none⟩ = some (.int .i64 a0_2) := (blk_cell BK155.out 2).trans rfl
                    have hcz30_3 : wc.cell? ⟨gb155, 3, none⟩ = some (.string a0_3) := (blk_cell BK155.out 3).trans rfl
                    have hcz30_4 : wc.cell? ⟨gb155, 4, none⟩ = some (.string a0_4) := (blk_cell BK155.out 4).trans rfl
                    have hcz30_5 : wc.cell? ⟨gb155, 5, none⟩ = some (.slice A0_5 l0_5.length c0_5) := (blk_cell BK155.out 5).trans rfl
                    have hfz30_0 := blk_frozen BK155.out 0
                    have hfz30_1 := blk_frozen BK155.out 1
                    have hfz30_2 := blk_frozen BK155.out 2
                    have hfz30_3 := blk_frozen BK155.out 3
                    have hfz30_4 := blk_frozen BK155.out 4
                    have hfz30_5 := blk_frozen BK155.out 5
                    go_wp2_with (first | (go_at_call 52; (with_reducible refine (json_Short.calls a0_3 true _ A21.out).mono ?_); rintro e w31 ⟨rfl, hb⟩; have n0_ := Aside0.mk (blk_below (g := gb155) (o := .cells #[.int .i64 a0_0, .int .i64 a0_1, .int .i64 a0_2, .string a0_3, .string a0_4, .slice A0_5 l0_5.length c0_5] 42 (0, 0)) (by (with_reducible repeat (first | refine blk_drewN ?_ _ | refine blk_drew ?_ | refine blk_alloc ?_ _)); exact BK155.out) hb); have n1_ := Aside0.mk (below_step (by repeat (first | (with_reducible first | exact HB.out | apply below_alloc | apply pw_below_drewN | apply below_drew1 | refine below_set ?_ GE155.out) | exact HB.out)) hb); clear BK155; clear HB; have BK155 := n0_; have HB := n1_; clear n0_ n1_; (try clear hb); (try clear hb2); (try clear hk); (try clear hi); have hcz32_0 : w31.cell? ⟨gb155, 0, none⟩ = some (.int .i64 a0_0) := (blk_cell BK155.out 0).trans rfl; have hcz32_1 : w31.cell? ⟨gb155, 1, none⟩ = some (.int .i64 a0_1) := (blk_cell BK155.out 1).trans rfl; have hcz32_2 : w31.cell? ⟨gb155, 2, none⟩ = some (.int .i64 a0_2) := (blk_cell BK155.out 2).trans rfl; have hcz32_3 : w31.cell? ⟨gb155, 3, none⟩ = some (.string a0_3) := (blk_cell BK155.out 3).trans rfl; have hcz32_4 : w31.cell? ⟨gb155, 4, none⟩ = some (.string a0_4) := (blk_cell BK155.out 4).trans rfl; have hcz32_5 : w31.cell? ⟨gb155, 5, none⟩ = some (.slice A0_5 l0_5.length c0_5) := (blk_cell BK155.out 5).trans rfl; have hfz32_0 := blk_frozen BK155.out 0; have hfz32_1 := blk_frozen BK155.out 1; have hfz32_2 := blk_frozen BK155.out 2; have hfz32_3 := blk_frozen BK155.out 3; have hfz32_4 := blk_frozen BK155.out 4; have hfz32_5 := blk_frozen BK155.out 5))
                    go_ret
                    exact ⟨by first | rfl | (simp [errW_none, errW_some] <;> rfl) | (simp [*, errW_none, errW_some] <;> rfl), by repeat (first | (with_reducible first | exact HB.out | apply below_alloc | apply pw_below_drewN | apply below_drew1 | refine below_set ?_ GE155.out) | exact HB.out)⟩
                · rw [if_neg c23] at H
                  have c23b0 : decide (1 ≤ (a0_4.size : Int)) = false := decide_eq_false c23
                  have c23b1 : decide (1 ≤ a0_4.size) = false := decide_eq_false (by omega)
                  clear c23
                  obtain rfl := Option.some.inj H
                  have hcz33_0 : wc.cell? ⟨gb155, 0, none⟩ = some (.int .i64 a0_0) := (blk_cell BK155.out 0).trans rfl
                  have hcz33_1 : wc.cell? ⟨gb155, 1, none⟩ = some (.int .i64 a0_1) := (blk_cell BK155.out 1).trans rfl
                  have hcz33_2 : wc.cell? ⟨gb155, 2, none⟩ = some (.int .i64 a0_2) := (blk_cell BK155.out 2).trans rfl
                  have hcz33_3 : wc.cell? ⟨gb155, 3, none⟩ = some (.string a0_3) := (blk_cell BK155.out 3).trans rfl
                  have hcz33_4 : wc.cell? ⟨gb155, 4, none⟩ = some (.string a0_4) := (blk_cell BK155.out 4).trans rfl
                  have hcz33_5 : wc.cell? ⟨gb155, 5, none⟩ = some (.slice A0_5 l0_5.length c0_5) := (blk_cell BK155.out 5).trans rfl
                  have hfz33_0 := blk_frozen BK155.out 0
                  have hfz33_1 := blk_frozen BK155.out 1
                  have hfz33_2 := blk_frozen BK155.out 2
                  have hfz33_3 := blk_frozen BK155.out 3
                  have hfz33_4 := blk_frozen BK155.out 4
                  have hfz33_5 := blk_frozen BK155.out 5
                  go_wp2_with (first | (go_at_call 52; (with_reducible refine (json_Short.calls a0_3 true _ A21.out).mono ?_); rintro e w34 ⟨rfl, hb⟩; have n0_ := Aside0.mk (blk_below (g := gb155) (o := .cells #[.int .i64 a0_0, .int .i64 a0_1, .int .i64 a0_2, .string a0_3, .string a0_4, .slice A0_5 l0_5.length c0_5] 42 (0, 0)) (by (with_reducible repeat (first | refine blk_drewN ?_ _ | refine blk_drew ?_ | refine blk_alloc ?_ _)); exact BK155.out) hb); have n1_ := Aside0.mk (below_step (by repeat (first | (with_reducible first | exact HB.out | apply below_alloc | apply pw_below_drewN | apply below_drew1 | refine below_set ?_ GE155.out) | exact HB.out)) hb); clear BK155; clear HB; have BK155 := n0_; have HB := n1_; clear n0_ n1_; (try clear hb); (try clear hb2); (try clear hk); (try clear hi); have hcz35_0 : w34.cell? ⟨gb155, 0, none⟩ = some (.int .i64 a0_0) := (blk_cell BK155.out 0).trans rfl; have hcz35_1 : w34.cell? ⟨gb155, 1, none⟩ = some (.int .i64 a0_1) := (blk_cell BK155.out 1).trans rfl; have hcz35_2 : w34.cell? ⟨gb155, 2, none⟩ = some (.int .i64 a0_2) := (blk_cell BK155.out 2).trans rfl; have hcz35_3 : w34.cell? ⟨gb155, 3, none⟩ = some (.string a0_3) := (blk_cell BK155.out 3).trans rfl; have hcz35_4 : w34.cell? ⟨gb155, 4, none⟩ = some (.string a0_4) := (blk_cell BK155.out 4).trans rfl; have hcz35_5 : w34.cell? ⟨gb155, 5, none⟩ = some (.slice A0_5 l0_5.length c0_5) := (blk_cell BK155.out 5).trans rfl; have hfz35_0 := blk_frozen BK155.out 0; have hfz35_1 := blk_frozen BK155.out 1; have hfz35_2 := blk_frozen BK155.out 2; have hfz35_3 := blk_frozen BK155.out 3; have hfz35_4 := blk_frozen BK155.out 4; have hfz35_5 := blk_frozen BK155.out 5))
                  go_ret
                  exact ⟨by first | rfl | (simp [errW_none, errW_some] <;> rfl) | (simp [*, errW_none, errW_some] <;> rfl), by repeat (first | (with_reducible first | exact HB.out | apply below_alloc | apply pw_below_drewN | apply below_drew1 | refine below_set ?_ GE155.out) | exact HB.out)⟩
              · replace c22 := Bool.eq_false_iff.mpr c22
                subst c22
                have H1 : (some false) = some r := by rw [if_neg (show ¬ (false = true) by decide)] at H; exact H
                clear H
                have H := H1
                clear H1
                obtain rfl := Option.some.inj H
                have hcz36_0 : wc.cell? ⟨gb155, 0, none⟩ = some (.int .i64 a0_0) := (blk_cell BK155.out 0).trans rfl
                have hcz36_1 : wc.cell? ⟨gb155, 1, none⟩ = some (.int .i64 a0_1) := (blk_cell BK155.out 1).trans rfl
                have hcz36_2 : wc.cell? ⟨gb155, 2, none⟩ = some (.int .i64 a0_2) := (blk_cell BK155.out 2).trans rfl
                have hcz36_3 : wc.cell? ⟨gb155, 3, none⟩ = some (.string a0_3) := (blk_cell BK155.out 3).trans rfl
                have hcz36_4 : wc.cell? ⟨gb155, 4, none⟩ = some (.string a0_4) := (blk_cell BK155.out 4).trans rfl
                have hcz36_5 : wc.cell? ⟨gb155, 5, none⟩ = some (.slice A0_5 l0_5.length c0_5) := (blk_cell BK155.out 5).trans rfl
                have hfz36_0 := blk_frozen BK155.out 0
                have hfz36_1 := blk_frozen BK155.out 1
                have hfz36_2 := blk_frozen BK155.out 2
                have hfz36_3 := blk_frozen BK155.out 3
                have hfz36_4 := blk_frozen BK155.out 4
                have hfz36_5 := blk_frozen BK155.out 5
                go_wp2_with (first | (go_at_call 52; (with_reducible refine (json_Short.calls a0_3 false _ A21.out).mono ?_); rintro e w37 ⟨rfl, hb⟩; have n0_ := Aside0.mk (blk_below (g := gb155) (o := .cells #[.int .i64 a0_0, .int .i64 a0_1, .int .i64 a0_2, .string a0_3, .string a0_4, .slice A0_5 l0_5.length c0_5] 42 (0, 0)) (by (with_reducible repeat (first | refine blk_drewN ?_ _ | refine blk_drew ?_ | refine blk_alloc ?_ _)); exact BK155.out) hb); have n1_ := Aside0.mk (below_step (by repeat (first | (with_reducible first | exact HB.out | apply below_alloc | apply pw_below_drewN | apply below_drew1 | refine below_set ?_ GE155.out) | exact HB.out)) hb); clear BK155; clear HB; have BK155 := n0_; have HB := n1_; clear n0_ n1_; (try clear hb); (try clear hb2); (try clear hk); (try clear hi)))
                go_ret
                exact ⟨by first | rfl | (simp [errW_none, errW_some] <;> rfl) | (simp [*, errW_none, errW_some] <;> rfl), by repeat (first | (with_reducible first | exact HB.out | apply below_alloc | apply pw_below_drewN | apply below_drew1 | refine below_set ?_ GE155.out) | exact HB.out)⟩
          · rw [if_neg c18] at H
            have c18b0 : (a0_2 == 0) = false := beq_eq_false_iff_ne.mpr c18
            have c18b1 : (a0_2 != 0) = true := bne_iff_ne.mpr c18
            obtain rfl := Option.some.inj H
            have hcz38_0 : wc.cell? ⟨gb155, 0, none⟩ = some (.int .i64 a0_0) := (blk_cell BK155.out 0).trans rfl
            have hcz38_1 : wc.cell? ⟨gb155, 1, none⟩ = some (.int .i64 a0_1) := (blk_cell BK155.out 1).trans rfl
            have hcz38_2 : wc.cell? ⟨gb155, 2, none⟩ = some (.int .i64 a0_2) := (blk_cell BK155.out 2).trans rfl
            have hcz38_3 : wc.cell? ⟨gb155, 3, none⟩ = some (.string a0_3) := (blk_cell BK155.out 3).trans rfl
            have hcz38_4 : wc.cell? ⟨gb155, 4, none⟩ = some (.string a0_4) := (blk_cell BK155.out 4).trans rfl
            have hcz38_5 : wc.cell? ⟨gb155, 5, none⟩ = some (.slice A0_5 l0_5.length c0_5) := (blk_cell BK155.out 5).trans rfl
            have hfz38_0 := blk_frozen BK155.out 0
            have hfz38_1 := blk_frozen BK155.out 1
            have hfz38_2 := blk_frozen BK155.out 2
            have hfz38_3 := blk_frozen BK155.out 3
            have hfz38_4 := blk_frozen BK155.out 4
            have hfz38_5 := blk_frozen BK155.out 5
            go_wp2
            go_ret
            exact ⟨by first | rfl | (simp [errW_none, errW_some] <;> rfl) | (simp [*, errW_none, errW_some] <;> rfl), by repeat (first | (with_reducible first | exact HB.out | apply below_alloc | apply pw_below_drewN | apply below_drew1 | refine below_set ?_ GE155.out) | exact HB.out)⟩
        · rw [if_neg c17] at H
          have c17b0 : (a0_0 == 1) = false := beq_eq_false_iff_ne.mpr c17
          have c17b1 : (a0_0 != 1) = true := bne_iff_ne.mpr c17
          have HC39 := Aside0.mk H
          clear H
          have hcz40_0 : wc.cell? ⟨gb155, 0, none⟩ = some (.int .i64 a0_0) := (blk_cell BK155.out 0).trans rfl
          have hcz40_1 : wc.cell? ⟨gb155, 1, none⟩ = some (.int .i64 a0_1) := (blk_cell BK155.out 1).trans rfl
          have hcz40_2 : wc.cell? ⟨gb155, 2, none⟩ = some (.int .i64 a0_2) := (blk_cell BK155.out 2).trans rfl
          have hcz40_3 : wc.cell? ⟨gb155, 3, none⟩ = some (.string a0_3) := (blk_cell BK155.out 3).trans rfl
          have hcz40_4 : wc.cell? ⟨gb155, 4, none⟩ = some (.string a0_4) := (blk_cell BK155.out 4).trans rfl
          have hcz40_5 : wc.cell? ⟨gb155, 5, none⟩ = some (.slice A0_5 l0_5.length c0_5) := (blk_cell BK155.out 5).trans rfl
          have hfz40_0 := blk_frozen BK155.out 0
          have hfz40_1 := blk_frozen BK155.out 1
          have hfz40_2 := blk_frozen BK155.out 2
          have hfz40_3 := blk_frozen BK155.out 3
          have hfz40_4 := blk_frozen BK155.out 4
          have hfz40_5 := blk_frozen BK155.out 5
          go_upto_if 57 with (fail)
          go_cut [57] (fun v57 wc => ∃ (kq : Nat) (x57_38 : Bool), v57 = .bool x57_38 ∧ Aside0 (record_May.j1 kq a0_0 x57_38 a0_0 a0_1 a0_2 a0_3 a0_4 l0_5 = some r) ∧ Aside0 (kq ≤ kj1) ∧ Aside0 (wc.heap[gb155]? = some (.cells #[.int .i64 a0_0, .int .i64 a0_1, .int .i64 a0_2, .string a0_3, .string a0_4, (.slice A0_5 l0_5.length c0_5)] 42 (0, 0))) ∧ Aside0 (Below w.heap.size w wc))
          case first =>
            have H := HC39.out
            clear HC39
            by_cases c41 : a0_0 = 2
            · rw [if_pos c41] at H
              have c41b0 : (a0_0 == 2) = true := beq_iff_eq.mpr c41
              have c41b1 : (a0_0 != 2) = false := bne_eq_false_iff_eq.mpr c41
              clear c41
              (first | rw [c41b0] | (simp only [i64_w, i32_w]; rw [c41b0]) | skip)
              have H' := Aside0.mk H
              clear H
              go_wp2
              go_meet
              case rel => exact ⟨_, ((a0_0 == 2)), (by first | rfl | (simp; done) | (simp [*]; done)), H', ⟨by have := HJ1.out; first | omega | exact Nat.le_refl _⟩, ⟨by (with_reducible repeat (first | refine blk_drewN ?_ _ | refine blk_drew ?_ | refine blk_alloc ?_ _)); exact BK155.out⟩, ⟨by repeat (first | (with_reducible first | exact HB.out | apply below_alloc | apply pw_below_drewN | apply below_drew1 | refine below_set ?_ GE155.out) | exact HB.out)⟩⟩
            · rw [if_neg c41] at H
              have c41b0 : (a0_0 == 2) = false := beq_eq_false_iff_ne.mpr c41
              have c41b1 : (a0_0 != 2) = true := bne_iff_ne.mpr c41
              (first | rw [c41b0] | (simp only [i64_w, i32_w]; rw [c41b0]) | skip)
              by_cases c42 : a0_0 = 3
              · rw [if_pos c42] at H
                have c42b0 : (a0_0 == 3) = true := beq_iff_eq.mpr c42
                have c42b1 : (a0_0 != 3) = false := bne_eq_false_iff_eq.mpr c42
                clear c42
                have H' := Aside0.mk H
                clear H
                go_wp2
                go_meet
                case rel => exact ⟨_, ((a0_0 == 3)), (by first | rfl | (simp; done) | (simp [*]; done)), H', ⟨by have := HJ1.out; first | omega | exact Nat.le_refl _⟩, ⟨by (with_reducible repeat (first | refine blk_drewN ?_ _ | refine blk_drew ?_ | refine blk_alloc ?_ _)); exact BK155.out⟩, ⟨by repeat (first | (with_reducible first | exact HB.out | apply below_alloc | apply pw_below_drewN | apply below_drew1 | refine below_set ?_ GE155.out) | exact HB.out)⟩⟩
              · rw [if_neg c42] at H
                have c42b0 : (a0_0 == 3) = false := beq_eq_false_iff_ne.mpr c42
                have c42b1 : (a0_0 != 3) = true := bne_iff_ne.mpr c42
                have H' := Aside0.mk H
                clear H
                go_wp2
                go_meet
                case rel => exact ⟨_, ((a0_0 == 5)), (by first | rfl | (simp; done) | (simp [*]; done)), H', ⟨by have := HJ1.out; first | omega | exact Nat.le_refl _⟩, ⟨by (with_reducible repeat (first | refine blk_drewN ?_ _ | refine blk_drew ?_ | refine blk_alloc ?_ _)); exact BK155.out⟩, ⟨by repeat (first | (with_reducible first | exact HB.out | apply below_alloc | apply pw_below_drewN | apply below_drew1 | refine below_set ?_ GE155.out) | exact HB.out)⟩⟩
          case rest =>
            clear HC39
            try clear c1
            try clear c2
            try clear p2
            try clear c4
            try clear c4b0
            try clear c5
            try clear c6
            try clear c6b0
            try clear c8
            try clear c8b0
            try clear c8b1
            try clear c16
            try clear c17
            try clear c17b0
            try clear c17b1
            try clear c18
            try clear c18b0
            try clear c18b1
            try clear c19
            try clear c19b0
            try clear c19b1
            try clear c22
            try clear c23
            try clear c23b0
            try clear c23b1
            try clear c24
            try clear c24b0
            try clear c24b1
            try clear c41
            try clear c41b0
            try clear c41b1
            try clear c42
            try clear c42b0
            try clear c42b1
            try clear hcz20_0
            try clear hcz20_1
            try clear hcz20_2
            try clear hcz20_3
            try clear hcz20_4
            try clear hcz20_5
            try clear hcz26_0
            try clear hcz26_1
            try clear hcz26_2
            try clear hcz26_3
            try clear hcz26_4
            try clear hcz26_5
            try clear hcz28_0
            try clear hcz28_1
            try clear hcz28_2
            try clear hcz28_3
            try clear hcz28_4
            try clear hcz28_5
            try clear hcz30_0
            try clear hcz30_1
            try clear hcz30_2
            try clear hcz30_3
            try clear hcz30_4
            try clear hcz30_5
            try clear hcz32_0
            try clear hcz32_1
            try clear hcz32_2
            try clear hcz32_3
            try clear hcz32_4
            try clear hcz32_5
            try clear hcz33_0
            try clear hcz33_1
            try clear hcz33_2
            try clear hcz33_3
            try clear hcz33_4
            try clear hcz33_5
            try clear hcz35_0
            try clear hcz35_1
            try clear hcz35_2
            try clear hcz35_3
            try clear hcz35_4
            try clear hcz35_5
            try clear hcz36_0
            try clear hcz36_1
            try clear hcz36_2
            try clear hcz36_3
            try clear hcz36_4
            try clear hcz36_5
            try clear hcz38_0
            try clear hcz38_1
            try clear hcz38_2
            try clear hcz38_3
            try clear hcz38_4
            try clear hcz38_5
            try clear hcz40_0
            try clear hcz40_1
            try clear hcz40_2
            try clear hcz40_3
            try clear hcz40_4
            try clear hcz40_5
            try clear hfz20_0
            try clear hfz20_1
            try clear hfz20_2
            try clear hfz20_3
            try clear hfz20_4
            try clear hfz20_5
            try clear hfz26_0
            try clear hfz26_1
            try clear hfz26_2
            try clear hfz26_3
            try clear hfz26_4
            try clear hfz26_5
            try clear hfz28_0
            try clear hfz28_1
            try clear hfz28_2
            try clear hfz28_3
            try clear hfz28_4
            try clear hfz28_5
            try clear hfz30_0
            try clear hfz30_1
            try clear hfz30_2
            try clear hfz30_3
            try clear hfz30_4
            try clear hfz30_5
            try clear hfz32_0
            try clear hfz32_1
            try clear hfz32_2
            try clear hfz32_3
            try clear hfz32_4
            try clear hfz32_5
            try clear hfz33_0
            try clear hfz33_1
            try clear hfz33_2
            try clear hfz33_3
            try clear hfz33_4
            try clear hfz33_5
            try clear hfz35_0
            try clear hfz35_1
            try clear hfz35_2
            try clear hfz35_3
            try clear hfz35_4
            try clear hfz35_5
            try clear hfz36_0
            try clear hfz36_1
            try clear hfz36_2
            try clear hfz36_3
            try clear hfz36_4
            try clear hfz36_5
            try clear hfz38_0
            try clear hfz38_1
            try clear hfz38_2
            try clear hfz38_3
            try clear hfz38_4
            try clear hfz38_5
            try clear hfz40_0
            try clear hfz40_1
            try clear hfz40_2
            try clear hfz40_3
            try clear hfz40_4
            try clear hfz40_5
            try clear p2
            obtain ⟨kq, x57_38, rfl, HA, HJ38, BK155, HB⟩ := hcut
            cases kq with
            | zero => exact absurd HA.out (by simp [record_May.j1])
            | succ kj38 =>
              have H := HA.out
              clear HA
              simp only [record_May.j1] at H
              by_cases c43 : x57_38 = true
              · subst c43
                have H1 : (if a0_2 ≥ 0 then (some (decide (a0_2 < 5))) else (some false)) = some r := by rw [if_pos rfl] at H; exact H
                clear H
                have H := H1
                clear H1
                by_cases c44 : a0_2 ≥ 0
                · rw [if_pos c44] at H
                  have c44b0 : decide (0 ≤ a0_2) = true := decide_eq_true c44
                  clear c44
                  obtain rfl := Option.some.inj H
                  have hcz45_0 : wc.cell? ⟨gb155, 0, none⟩ = some (.int .i64 a0_0) := (blk_cell BK155.out 0).trans rfl
                  have hcz45_1 : wc.cell? ⟨gb155, 1, none⟩ = some (.int .i64 a0_1) := (blk_cell BK155.out 1).trans rfl
                  have hcz45_2 : wc.cell? ⟨gb155, 2, none⟩ = some (.int .i64 a0_2) := (blk_cell BK155.out 2).trans rfl
                  have hcz45_3 : wc.cell? ⟨gb155, 3, none⟩ = some (.string a0_3) := (blk_cell BK155.out 3).trans rfl
                  have hcz45_4 : wc.cell? ⟨gb155, 4, none⟩ = some (.string a0_4) := (blk_cell BK155.out 4).trans rfl
                  have hcz45_5 : wc.cell? ⟨gb155, 5, none⟩ = some (.slice A0_5 l0_5.length c0_5) := (blk_cell BK155.out 5).trans rfl
                  have hfz45_0 := blk_frozen BK155.out 0
                  have hfz45_1 := blk_frozen BK155.out 1
                  have hfz45_2 := blk_frozen BK155.out 2
                  have hfz45_3 := blk_frozen BK155.out 3
                  have hfz45_4 := blk_frozen BK155.out 4
                  have hfz45_5 := blk_frozen BK155.out 5
                  go_wp2
                  go_ret
                  exact ⟨by first | rfl | (simp [errW_none, errW_some] <;> rfl) | (simp [*, errW_none, errW_some] <;> rfl), by repeat (first | (with_reducible first | exact HB.out | apply below_alloc | apply pw_below_drewN | apply below_drew1 | refine below_set ?_ GE155.out) | exact HB.out)⟩
                · rw [if_neg c44] at H
                  have c44b0 : decide (0 ≤ a0_2) = false := decide_eq_false c44
                  clear c44
                  obtain rfl := Option.some.inj H
                  have hcz46_0 : wc.cell? ⟨gb155, 0, none⟩ = some (.int .i64 a0_0) := (blk_cell BK155.out 0).trans rfl
                  have hcz46_1 : wc.cell? ⟨gb155, 1, none⟩ = some (.int .i64 a0_1) := (blk_cell BK155.out 1).trans rfl
                  have hcz46_2 : wc.cell? ⟨gb155, 2, none⟩ = some (.int .i64 a0_2) := (blk_cell BK155.out 2).trans rfl
                  have hcz46_3 : wc.cell? ⟨gb155, 3, none⟩ = some (.string a0_3) := (blk_cell BK155.out 3).trans rfl
                  have hcz46_4 : wc.cell? ⟨gb155, 4, none⟩ = some (.string a0_4) := (blk_cell BK155.out 4).trans rfl
                  have hcz46_5 : wc.cell? ⟨gb155, 5, none⟩ = some (.slice A0_5 l0_5.length c0_5) := (blk_cell BK155.out 5).trans rfl
                  have hfz46_0 := blk_frozen BK155.out 0
                  have hfz46_1 := blk_frozen BK155.out 1
                  have hfz46_2 := blk_frozen BK155.out 2
                  have hfz46_3 := blk_frozen BK155.out 3
                  have hfz46_4 := blk_frozen BK155.out 4
                  have hfz46_5 := blk_frozen BK155.out 5
                  go_wp2
                  go_ret
                  exact ⟨by first | rfl | (simp [errW_none, errW_some] <;> rfl) | (simp [*, errW_none, errW_some] <;> rfl), by repeat (first | (with_reducible first | exact HB.out | apply below_alloc | apply pw_below_drewN | apply below_drew1 | refine below_set ?_ GE155.out) | exact HB.out)⟩
              · replace c43 := Bool.eq_false_iff.mpr c43
                subst c43
                have H1 : (if a0_0 = 4 then (some (a0_2 == 0)) else (if a0_0 = 6 then (if a0_2 ≥ 1 then (some (decide (a0_2 ≤ 3))) else (some false)) else (some false))) = some r := by rw [if_neg (show ¬ (false = true) by decide)] at H; exact H
                clear H
                have H := H1
                clear H1
                by_cases c47 : a0_0 = 4
                · rw [if_pos c47] at H
                  have c47b0 : (a0_0 == 4) = true := beq_iff_eq.mpr c47
                  have c47b1 : (a0_0 != 4) = false := bne_eq_false_iff_eq.mpr c47
                  clear c47
                  obtain rfl := Option.some.inj H
                  have hcz48_0 : wc.cell? ⟨gb155, 0, none⟩ = some (.int .i64 a0_0) := (blk_cell BK155.out 0).trans rfl
                  have hcz48_1 : wc.cell? ⟨gb155, 1, none⟩ = some (.int .i64 a0_1) := (blk_cell BK155.out 1).trans rfl
                  have hcz48_2 : wc.cell? ⟨gb155, 2, none⟩ = some (.int .i64 a0_2) := (blk_cell BK155.out 2).trans rfl
                  have hcz48_3 : wc.cell? ⟨gb155, 3, none⟩ = some (.string a0_3) := (blk_cell BK155.out 3).trans rfl
                  have hcz48_4 : wc.cell? ⟨gb155, 4, none⟩ = some (.string a0_4) := (blk_cell BK155.out 4).trans rfl
                  have hcz48_5 : wc.cell? ⟨gb155, 5, none⟩ = some (.slice A0_5 l0_5.length c0_5) := (blk_cell BK155.out 5).trans rfl
                  have hfz48_0 := blk_frozen BK155.out 0
                  have hfz48_1 := blk_frozen BK155.out 1
                  have hfz48_2 := blk_frozen BK155.out 2
                  have hfz48_3 := blk_frozen BK155.out 3
                  have hfz48_4 := blk_frozen BK155.out 4
                  have hfz48_5 := blk_frozen BK155.out 5
                  go_wp2
                  go_ret
                  exact ⟨by first | rfl | (simp [errW_none, errW_some] <;> rfl) | (simp [*, errW_none, errW_some] <;> rfl), by repeat (first | (with_reducible first | exact HB.out | apply below_alloc | apply pw_below_drewN | apply below_drew1 | refine below_set ?_ GE155.out) | exact HB.out)⟩
                · rw [if_neg c47] at H
                  have c47b0 : (a0_0 == 4) = false := beq_eq_false_iff_ne.mpr c47
                  have c47b1 : (a0_0 != 4) = true := bne_iff_ne.mpr c47
                  by_cases c49 : a0_0 = 6
                  · rw [if_pos c49] at H
                    have c49b0 : (a0_0 == 6) = true := beq_iff_eq.mpr c49
                    have c49b1 : (a0_0 != 6) = false := bne_eq_false_iff_eq.mpr c49
                    clear c49
                    by_cases c50 : a0_2 ≥ 1
                    · rw [if_pos c50] at H
                      have c50b0 : decide (1 ≤ a0_2) = true := decide_eq_true c50
                      clear c50
                      obtain rfl := Option.some.inj H
                      have hcz51_0 : wc.cell? ⟨gb155, 0, none⟩ = some (.int .i64 a0_0) := (blk_cell BK155.out 0).trans rfl
                      have hcz51_1 : wc.cell? ⟨gb155, 1, none⟩ = some (.int .i64 a0_1) := (blk_cell BK155.out 1).trans rfl
                      have hcz51_2 : wc.cell? ⟨gb155, 2, none⟩ = some (.int .i64 a0_2) := (blk_cell BK155.out 2).trans rfl
                      have hcz51_3 : wc.cell? ⟨gb155, 3, none⟩ = some (.string a0_3) := (blk_cell BK155.out 3).trans rfl
                      have hcz51_4 : wc.cell? ⟨gb155, 4, none⟩ = some (.string a0_4) := (blk_cell BK155.out 4).trans rfl
                      have hcz51_5 : wc.cell? ⟨gb155, 5, none⟩ = some (.slice A0_5 l0_5.length c0_5) := (blk_cell BK155.out 5).trans rfl
                      have hfz51_0 := blk_frozen BK155.out 0
                      have hfz51_1 := blk_frozen BK155.out 1
                      have hfz51_2 := blk_frozen BK155.out 2
                      have hfz51_3 := blk_frozen BK155.out 3
                      have hfz51_4 := blk_frozen BK155.out 4
                      have hfz51_5 := blk_frozen BK155.out 5
                      go_wp2
                      go_ret
                      exact ⟨by first | rfl | (simp [errW_none, errW_some] <;> rfl) | (simp [*, errW_none, errW_some] <;> rfl), by repeat (first | (with_reducible first | exact HB.out | apply below_alloc | apply pw_below_drewN | apply below_drew1 | refine below_set ?_ GE155.out) | exact HB.out)⟩
                    · rw [if_neg c50] at H
                      have c50b0 : decide (1 ≤ a0_2) = false := decide_eq_false c50
                      clear c50
                      obtain rfl := Option.some.inj H
                      have hcz52_0 : wc.cell? ⟨gb155, 0, none⟩ = some (.int .i64 a0_0) := (blk_cell BK155.out 0).trans rfl
                      have hcz52_1 : wc.cell? ⟨gb155, 1, none⟩ = some (.int .i64 a0_1) := (blk_cell BK155.out 1).trans rfl
                      have hcz52_2 : wc.cell? ⟨gb155, 2, none⟩ = some (.int .i64 a0_2) := (blk_cell BK155.out 2).trans rfl
                      have hcz52_3 : wc.cell? ⟨gb155, 3, none⟩ = some (.string a0_3) := (blk_cell BK155.out 3).trans rfl
                      have hcz52_4 : wc.cell? ⟨gb155, 4, none⟩ = some (.string a0_4) := (blk_cell BK155.out 4).trans rfl
                      have hcz52_5 : wc.cell? ⟨gb155, 5, none⟩ = some (.slice A0_5 l0_5.length c0_5) := (blk_cell BK155.out 5).trans rfl
                      have hfz52_0 := blk_frozen BK155.out 0
                      have hfz52_1 := blk_frozen BK155.out 1
                      have hfz52_2 := blk_frozen BK155.out 2
                      have hfz52_3 := blk_frozen BK155.out 3
                      have hfz52_4 := blk_frozen BK155.out 4
                      have hfz52_5 := blk_frozen BK155.out 5
                      go_wp2
                      go_ret
                      exact ⟨by first | rfl | (simp [errW_none, errW_some] <;> rfl) | (simp [*, errW_none, errW_some] <;> rfl), by repeat (first | (with_reducible first | exact HB.out | apply below_alloc | apply pw_below_drewN | apply below_drew1 | refine below_set ?_ GE155.out) | exact HB.out)⟩
                  · rw [if_neg c49] at H
                    have c49b0 : (a0_0 == 6) = false := beq_eq_false_iff_ne.mpr c49
                    have c49b1 : (a0_0 != 6) = true := bne_iff_ne.mpr c49
                    obtain rfl := Option.some.inj H
                    go_wp2
                    go_ret
                    exact ⟨by first | rfl | (simp [errW_none, errW_some] <;> rfl) | (simp [*, errW_none, errW_some] <;> rfl), by repeat (first | (with_reducible first | exact HB.out | apply below_alloc | apply pw_below_drewN | apply below_drew1 | refine below_set ?_ GE155.out) | exact HB.out)⟩
end Go.Proofs.Ytmhjhhlgdenlkaa.P
set_option linter.unusedVariables false
set_option linter.unusedSimpArgs false
namespace Go.Proofs.Ytmhjhhlgdenlkaa.P
open Go.RowKit Go.Proofs.YtmhjhhlgdenlkaaW.PrintWords
def unf (s : ByteArray) : Option (ByteArray × ByteArray) :=
  if s.size < 8 then none else if rd4 s > 4000 then none else if rd4 s > (s.size : Int) - 8 then none else
  if rd4 (s.extract 4 s.size) = chk (s.extract 0 4 ++ s.extract 8 (8 + (rd4 s).toNat)) then some (s.extract 8 (8 + (rd4 s).toNat), s.extract (8 + (rd4 s).toNat) s.size) else none
def unfT (s : ByteArray) : ByteArray × ByteArray × Bool := match unf s with
  | none => (⟨#[]⟩, ⟨#[]⟩, false)
  | some (a, b) => (a, b, true)
theorem seal_Take_tot (s : ByteArray) (hs : s.size ≤ 1000000000) (k : Nat) (hk : 5000 ≤ k) : seal_Take.f k s = some (unfT s) := by
  obtain ⟨k, rfl⟩ : ∃ j, k = j + 1 := ⟨k - 1, by omega⟩
  have hr := rd4_range s
  unfold seal_Take.f unfT unf
  by_cases h1 : s.size < 8
  · rw [if_pos (by omega), if_pos h1]
  rw [if_neg (by omega), if_neg h1, seal_Number_tot s (by omega), Option.bind_some]
  have w1 : wrap64 (rd4 s) = rd4 s := by unfold wrap64; omega
  have w2 : wrap64 ((s.size : Int) - 8) = (s.size : Int) - 8 := by unfold wrap64; omega
  by_cases h2 : rd4 s > 4000
  · rw [if_pos h2, if_pos h2]
    rw [seal_Take.j0]
    rw [if_pos rfl]
  rw [if_neg h2, if_neg h2, w1, w2]
  by_cases h3 : rd4 s > (s.size : Int) - 8
  · rw [if_pos h3]
    rw [seal_Take.j0]
    rw [if_pos (by simpa using h3)]
  rw [if_neg h3]
  have w3 : wrap64 (8 + wrap64 (rd4 s)) = 8 + rd4 s := by rw [w1]; unfold wrap64; omega
  have t1 : (8 + rd4 s : Int).toNat = 8 + (rd4 s).toNat := by omega
  have z1 : (s.extract 0 4 ++ s.extract 8 (8 + (rd4 s).toNat)).size = 4 + (rd4 s).toNat := by
    rw [ByteArray.size_append, ByteArray.size_extract, ByteArray.size_extract]; omega
  have z2 : (s.extract 4 s.size).size = s.size - 4 := by rw [ByteArray.size_extract]; omega
  rw [seal_Take.j0]
  rw [if_neg (by simpa using h3), w3, t1, if_pos (by omega), if_pos (by omega), if_pos (by omega), if_pos (by omega), seal_Number_tot _ (by omega), Option.bind_some, if_pos (by omega),
    if_pos (by rw [← ByteArray.size_append, z1]; omega), seal_Of_tot _ (by rw [z1]; omega) k (by rw [z1]; omega), Option.bind_some]
  by_cases h4 : rd4 (s.extract 4 s.size) = chk (s.extract 0 4 ++ s.extract 8 (8 + (rd4 s).toNat))
  · rw [if_pos h4, if_pos h4]
  · rw [if_neg h4, if_neg h4]
def okR (r : S42) : Bool :=
  decide (1 ≤ r.f1 ∧ r.f1 ≤ 20) && (if r.f0 = 1 then decide (r.f2 = 0) && (!(r.f3.toList == [])) && isShort r.f3 && decide (1 ≤ r.f4.size ∧ r.f4.size ≤ 3000) && okSteps r.f5
    else (r.f3.toList == []) && (r.f4.toList == []) && decide (r.f5.length = 0) &&
      (if r.f0 = 2 ∨ r.f0 = 3 ∨ r.f0 = 5 then decide (0 ≤ r.f2 ∧ r.f2 < 5) else if r.f0 = 4 then decide (r.f2 = 0) else if r.f0 = 6 then decide (1 ≤ r.f2 ∧ r.f2 ≤ 3) else false))
theorem record_May_j1 (k : Nat) (x : Int) (b : Bool) (x0 x1 x2 : Int) (x3 x4 : ByteArray) (x5 : List S80) :
    record_May.j1 (k + 1) x b x0 x1 x2 x3 x4 x5 = some (if b = true then decide (0 ≤ x2 ∧ x2 < 5) else if x = 4 then decide (x2 = 0) else if x = 6 then decide (1 ≤ x2 ∧ x2 ≤ 3) else false) := by
  rw [record_May.j1]
  cases b with
  | true =>
    rw [if_pos rfl, if_pos rfl]
    by_cases h : x2 ≥ 0
    · rw [if_pos h]; congr 1; exact decide_eq_decide.2 (by omega)
    · rw [if_neg h]; congr 1; exact (decide_eq_false (by omega)).symm
  | false =>
    simp only [Bool.false_eq_true, if_false]
    by_cases h4 : x = 4
    · rw [if_pos h4, if_pos h4]; congr 1
    · rw [if_neg h4, if_neg h4]
      by_cases h6 : x = 6
      · rw [if_pos h6, if_pos h6]
        by_cases h : x2 ≥ 1
        · rw [if_pos h]; congr 1; exact decide_eq_decide.2 (by omega)
        · rw [if_neg h]; congr 1; exact (decide_eq_false (by omega)).symm
      · rw [if_neg h6, if_neg h6]
theorem record_May_tot (r : S42) (hsz : ∀ x : S80, x ∈ r.f5 → x.f0.size ≤ 140737488351232) (k : Nat) (hk : 10 ≤ k) : record_May.f k r.f0 r.f1 r.f2 r.f3 r.f4 r.f5 = some (okR r) := by
  obtain ⟨k, rfl⟩ : ∃ j, k = j + 2 := ⟨k - 2, by omega⟩
  unfold record_May.f okR
  by_cases h1 : r.f1 < 1
  · rw [if_pos h1, decide_eq_false (by omega)]; rw [record_May.j0]; rw [if_pos rfl]; rfl
  by_cases h2 : r.f1 > 20
  · rw [if_neg h1, if_pos h2, decide_eq_false (by omega)]; rw [record_May.j0]; rw [if_pos rfl]; rfl
  rw [if_neg h1, if_neg h2, decide_eq_true (by omega), Bool.true_and]
  by_cases h3 : r.f0 = 1
  · rw [if_pos h3, if_pos h3]
    rw [record_May.j0]
    rw [if_neg (by simp), if_pos h3]
    by_cases g1 : r.f2 = 0
    · rw [if_pos g1, decide_eq_true g1]
      by_cases g2 : r.f3.toList = []
      · rw [if_pos g2, g2]; rfl
      · rw [if_neg g2]
        unfold json_Short.f
        rw [Option.bind_some]
        have e2 : (!(r.f3.toList == [])) = true := by
          cases hq : r.f3.toList with
          | nil => exact absurd hq g2
          | cons a b => rfl
        rw [e2]
        cases hsh : isShort r.f3 with
        | false => rw [if_neg (by simp)]; rfl
        | true =>
          rw [if_pos rfl]
          by_cases g3 : (r.f4.size : Int) ≥ 1
          · rw [if_pos g3]
            by_cases g4 : (r.f4.size : Int) ≤ 3000
            · rw [if_pos g4, decide_eq_true (p := 1 ≤ r.f4.size ∧ r.f4.size ≤ 3000) (by omega)]
              unfold plan_May.f
              simp
              exact hsz
            · rw [if_neg g4, decide_eq_false (p := 1 ≤ r.f4.size ∧ r.f4.size ≤ 3000) (by omega)]; rfl
          · rw [if_neg g3, decide_eq_false (p := 1 ≤ r.f4.size ∧ r.f4.size ≤ 3000) (by omega)]; rfl
    · rw [if_neg g1, decide_eq_false g1]; rfl
  · rw [if_neg h3, if_neg h3]
    unfold record_bare.f
    rw [Option.bind_some]
    simp only
    unfold record_same.f
    rw [if_pos rfl, if_pos rfl, if_pos rfl]
    have e0 : (⟨#[]⟩ : ByteArray).toList = [] := by
      unfold ByteArray.toList ByteArray.toList.loop
      rfl
    rw [e0]
    by_cases g1 : r.f3.toList = []
    · rw [if_pos g1]
      have g1' : (r.f3.toList == []) = true := by rw [g1]; rfl
      rw [g1']
      by_cases g2 : r.f4.toList = []
      · have g2' : (r.f4.toList == []) = true := by rw [g2]; rfl
        rw [if_pos g2, g2']
        unfold api_Step_65.f
        by_cases g3 : r.f5.length = 0
        · rw [if_pos (by simp [g3]), decide_eq_true g3]
          rw [api_Step_65.l0]
          rw [if_neg (by omega)]
          simp only [Option.bind_some]
          rw [record_May.j0]
          rw [if_neg (by simp), if_neg h3]
          by_cases k2 : r.f0 = 2
          · rw [if_pos k2, record_May_j1, k2]; rfl
          · rw [if_neg k2]
            by_cases k3 : r.f0 = 3
            · rw [if_pos k3, record_May_j1, k3]; rfl
            · rw [if_neg k3, record_May_j1]
              by_cases k5 : r.f0 = 5
              · rw [k5]; rfl
              · have k5b : (r.f0 == 5) = false := by simpa using k5
                rw [k5b]
                simp [k2, k3, k5]
        · rw [if_neg (fun h => g3 (by simpa using h)), decide_eq_false g3]
          simp only [Option.bind_some]
          rw [record_May.j0]
          rw [if_pos (by simp)]
          rfl
      · rw [if_neg g2]
        simp only [Option.bind_some]
        have g2' : (r.f4.toList == []) = false := by
          cases hq : r.f4.toList with
          | nil => exact absurd hq g2
          | cons a b => rfl
        rw [record_May.j0]
        rw [if_pos (by simp), g2']
        rfl
    · rw [if_neg g1]
      simp only [Option.bind_some]
      have g1' : (r.f3.toList == []) = false := by
        cases hq : r.f3.toList with
        | nil => exact absurd hq g1
        | cons a b => rfl
      rw [record_May.j0]
      rw [if_pos (by simp), g1']
      rfl
def spellR (r : S42) : ByteArray := ⟨(spell8 r.f0 r.f1 r.f2 r.f3 r.f4 r.f5).toArray⟩
def rdRec (t : ByteArray) : S42 × RS :=
  let a := rdN (t, false); let b := rdN a.2; let c := rdN b.2; let d := rdN c.2
  if a.1 = 1 then let e := rdBegin d.2; (⟨a.1, b.1, c.1, e.1.1, e.1.2.1, e.1.2.2⟩, e.2) else (⟨a.1, b.1, c.1, ⟨#[]⟩, ⟨#[]⟩, []⟩, d.2)
def okT (t : ByteArray) : Bool := (!(rdRec t).2.2) && okR (rdRec t).1 && decide (spellR (rdRec t).1 = t)
def takeR (s : ByteArray) : Option (S42 × ByteArray) := (unf s).bind fun p => if okT p.1 = true then some ((rdRec p.1).1, p.2) else none
theorem rdB_le (st : RS) (n : Int) : (rdB st n).1.size ≤ st.1.size ∧ (rdB st n).2.1.size ≤ st.1.size := by
  unfold rdB
  by_cases h1 : st.2 = true
  · rw [if_pos h1]; exact ⟨Nat.zero_le _, Nat.le_refl _⟩
  rw [if_neg h1]
  by_cases h2 : n < 0
  · rw [if_pos h2]; exact ⟨Nat.zero_le _, Nat.le_refl _⟩
  rw [if_neg h2]
  by_cases h3 : n > (st.1.size : Int)
  · rw [if_pos h3]; exact ⟨Nat.zero_le _, Nat.le_refl _⟩
  rw [if_neg h3]
  simp only [ByteArray.size_extract]
  omega
theorem rdN_le (st : RS) : (rdN st).2.1.size ≤ st.1.size := by
  unfold rdN
  split <;> exact (rdB_le st 4).2
theorem rdT_le (st : RS) : (rdT st).1.size ≤ st.1.size ∧ (rdT st).2.1.size ≤ st.1.size := by
  unfold rdT
  have h1 := rdN_le st
  have h2 := rdB_le (rdN st).2 (rdN st).1
  omega
theorem rdStep_le (st : RS) : (rdStep st).1.f0.size ≤ st.1.size ∧ (rdStep st).1.f2.size ≤ st.1.size ∧ (rdStep st).1.f3.size ≤ st.1.size ∧ (rdStep st).1.f4.size ≤ st.1.size ∧ (rdStep st).2.1.size ≤ st.1.size := by
  unfold rdStep
  have a := rdT_le st
  have b := rdN_le (rdT st).2
  have c := rdT_le (rdN (rdT st).2).2
  have d := rdT_le (rdT (rdN (rdT st).2).2).2
  have e := rdT_le (rdT (rdT (rdN (rdT st).2).2).2).2
  have f := rdN_le (rdT (rdT (rdT (rdN (rdT st).2).2).2).2).2
  simp only
  omega
theorem step8_size (x : S80) : (step8 x).length = 24 + x.f0.size + x.f2.size + x.f3.size + x.f4.size := by
  simp [step8, Writer.text8, Writer.be32]
  omega
theorem rdSteps_le (n : Nat) : ∀ st : RS, (rdSteps n st).1.length = n ∧ ((rdSteps n st).1.flatMap step8).length ≤ n * (24 + 4 * st.1.size) := by
  induction n with
  | zero => intro st; exact ⟨rfl, Nat.zero_le _⟩
  | succ n ih =>
    intro st
    have h := rdStep_le st
    have hi := ih (rdStep st).2
    have e1 : (rdSteps (n + 1) st).1 = (rdStep st).1 :: (rdSteps n (rdStep st).2).1 := rfl
    rw [e1]
    refine ⟨by simp [hi.1], ?_⟩
    rw [List.flatMap_cons, List.length_append, step8_size]
    have hm : n * (24 + 4 * (rdStep st).2.1.size) ≤ n * (24 + 4 * st.1.size) := Nat.mul_le_mul_left _ (by omega)
    have := hi.2
    rw [Nat.succ_mul]
    omega
end Go.Proofs.Ytmhjhhlgdenlkaa.P
set_option linter.unusedVariables false
set_option linter.unusedSimpArgs false
namespace Go.Proofs.Ytmhjhhlgdenlkaa.P
open Go.RowKit Go.Proofs.YtmhjhhlgdenlkaaW.PrintWords Go.Proofs.YtmhjhhlgdenlkaaW.PrintMore
def takeT (s : ByteArray) : S42 × ByteArray × Int := match takeR s with
  | some (r, y) => (r, y, 0)
  | none => (z42, ⟨#[]⟩, 10)
def TakeEnd (w : World) (p : S42 × ByteArray × Int) (e : Ending) (w' : World) : Prop :=
  ∃ v5, e = .returned (.tuple #[.agg #[.int .i64 p.1.f0, .int .i64 p.1.f1, .int .i64 p.1.f2, .string p.1.f3, .string p.1.f4, v5], .string p.2.1, .int .i64 p.2.2]) ∧ Kd.R k80 80 w' w.heap.size (fun _ => True) v5 p.1.f5 ∧ Below w.heap.size w w'
theorem Bg.below {w0 W W' : World} {gx gr : Nat} {st : RS} {rc : Array Value} {v : Value} {l : List S80} (h : Bg w0 gx gr st rc v l W) (hb : Below W.heap.size W W') : Bg w0 gx gr st rc v l W' :=
  ⟨h.I.below hb, (hb.block gr (Array.getElem?_eq_some_iff.1 h.R).1).trans h.R, Kd.R_below h.O hb, h.B.trans ⟨hb.os, hb.tape, hb.output, hb.size, fun k hk => hb.block k (by have := h.B.size; omega)⟩, h.G, h.N⟩
theorem takeT_bad {a0 t rest : ByteArray} (hu : unfT a0 = (t, rest, true)) (ho : okT t = false) : takeT a0 = (z42, ⟨#[]⟩, 10) := by
  unfold takeT takeR
  unfold unfT at hu
  cases hq : unf a0 with
  | none => rw [hq] at hu; simp at hu
  | some x =>
    rw [hq] at hu
    simp only [Prod.mk.injEq] at hu
    rw [Option.bind_some, hu.1, ho]
    rfl
theorem takeT_good {a0 t rest : ByteArray} (hu : unfT a0 = (t, rest, true)) (ho : okT t = true) : takeT a0 = ((rdRec t).1, rest, 0) := by
  unfold takeT takeR
  unfold unfT at hu
  cases hq : unf a0 with
  | none => rw [hq] at hu; simp at hu
  | some x =>
    rw [hq] at hu
    simp only [Prod.mk.injEq] at hu
    rw [Option.bind_some, hu.1, hu.2.1, ho]
    rfl
theorem Bg.start (w : World) (n : Nat) (t : ByteArray) : Bg w (w.heap.size + 1) w.heap.size (t, false) (hd6 0 0 0 ⟨#[]⟩ ⟨#[]⟩ (.slice none 0 0)) (.slice none 0 0) []
    (((w.alloc (.cells #[.int .i64 0, .int .i64 0, .int .i64 0, .string ⟨#[]⟩, .string ⟨#[]⟩, .slice none 0 0] 42)).drewN n).alloc (.cells #[.string t, .bool false] 89)) := by
  have hz : ((w.alloc (.cells #[.int .i64 0, .int .i64 0, .int .i64 0, .string ⟨#[]⟩, .string ⟨#[]⟩, .slice none 0 0] 42)).drewN n).heap.size = w.heap.size + 1 := by
    show (w.alloc (.cells #[.int .i64 0, .int .i64 0, .int .i64 0, .string ⟨#[]⟩, .string ⟨#[]⟩, .slice none 0 0] 42)).heap.size = _
    simp
  refine ⟨⟨?_, by omega⟩, ?_, Kd.R_nil _ _ _ _ _, ?_, Nat.le_refl _, by omega⟩
  · rw [← hz]; exact heap_alloc_new _ _
  · exact (Lib.alloc_old _ _ _ (by rw [hz]; omega)).trans (heap_alloc_new w _)
  · exact (pw_below_drewN (below_alloc (Below.refl _ _) _) n).alloc (by rw [hz]; omega) _
theorem toList_inj {a b : ByteArray} (h : a.toList = b.toList) : a = b := by
  rw [Lib.toList_data, Lib.toList_data] at h
  cases a; cases b
  simp only at h
  rw [Array.toList_inj.1 h]
theorem unfT_size {a0 t rest : ByteArray} {ok : Bool} (hu : unfT a0 = (t, rest, ok)) : t.size ≤ 4000 ∨ ok = false := by
  have hr := rd4_range a0
  unfold unfT unf at hu
  by_cases h1 : a0.size < 8
  · rw [if_pos h1] at hu; simp at hu; right; exact hu.2.2.symm ▸ rfl
  rw [if_neg h1] at hu
  by_cases h2 : rd4 a0 > 4000
  · rw [if_pos h2] at hu; simp at hu; right; exact hu.2.2.symm ▸ rfl
  rw [if_neg h2] at hu
  by_cases h3 : rd4 a0 > (a0.size : Int) - 8
  · rw [if_pos h3] at hu; simp at hu; right; exact hu.2.2.symm ▸ rfl
  rw [if_neg h3] at hu
  split at hu
  · simp at hu; right; exact hu.2.2.symm ▸ rfl
  · rename_i a b hq
    split at hq
    · left
      simp only [Option.some.injEq, Prod.mk.injEq] at hq hu
      rw [← hu.1, ← hq.1, ByteArray.size_extract]
      omega
    · simp at hq
theorem begin_small {s4 st : RS} {key body : ByteArray} {l : List S80} {x1 x2 x3 : Int} (hz : s4.1.size ≤ 4000) (h : rdBegin s4 = ((key, body, l), st)) :
    l.length ≤ 5 ∧ (∀ x : S80, x ∈ l → x.f0.size ≤ 140737488351232) ∧ (spell8 x1 x2 x3 key body l).length ≤ 100000 := by
  have e : rdBegin s4 = (((rdT s4).1, (rdT (rdT s4).2).1, (rdSteps (min (rdN (rdT (rdT s4).2).2).1 5).toNat (rdN (rdT (rdT s4).2).2).2).1), (rdSteps (min (rdN (rdT (rdT s4).2).2).1 5).toNat (rdN (rdT (rdT s4).2).2).2).2) := rfl
  rw [e] at h
  simp only [Prod.mk.injEq] at h
  obtain ⟨⟨e1, e2, e3⟩, e4⟩ := h
  have a1 := rdT_le s4
  have a2 := rdT_le (rdT s4).2
  have a3 := rdN_le (rdT (rdT s4).2).2
  obtain ⟨m, hm⟩ : ∃ m, (min (rdN (rdT (rdT s4).2).2).1 5).toNat = m := ⟨_, rfl⟩
  rw [hm] at e3
  have hm5 : m ≤ 5 := by omega
  have a4 := rdSteps_le m (rdN (rdT (rdT s4).2).2).2
  rw [e3] at a4
  have hmm : m * (24 + 4 * (rdN (rdT (rdT s4).2).2).2.1.size) ≤ 5 * (24 + 4 * 4000) := Nat.mul_le_mul hm5 (by omega)
  refine ⟨by omega, ?_, ?_⟩
  · intro x hx
    obtain ⟨p, q, hpq⟩ := List.append_of_mem hx
    have : (l.flatMap step8).length = (p.flatMap step8).length + ((step8 x).length + (q.flatMap step8).length) := by
      rw [hpq, List.flatMap_append, List.flatMap_cons, List.length_append, List.length_append]
    rw [step8_size] at this
    omega
  · have hk : key.size ≤ 4000 := by rw [← e1]; omega
    have hb : body.size ≤ 4000 := by rw [← e2]; omega
    unfold spell8
    have e6 : ([x1, x2, x3, 0].flatMap Writer.be32).length = 16 := by simp [Writer.be32]
    rw [List.length_append, e6]
    split
    · rw [List.length_append, List.length_append, List.length_append, Writer.text8_length, Writer.text8_length, Writer.be32_length]
      omega
    · simp
set_option maxHeartbeats 16000000 in
set_option maxRecDepth 100000 in
theorem Take_calls (a0 : ByteArray) (hs : a0.size ≤ 1000000000) (w : World) :
    Calls Try.prog 31 #[.string a0] w fun e w' => TakeEnd w (takeT a0) e w' := by
  obtain ⟨p, hp⟩ : ∃ p, takeT a0 = p := ⟨_, rfl⟩
  rw [hp]
  have hS := seal_Take.calls 5000 a0 (unfT a0).1 (unfT a0).2.1 (unfT a0).2.2
  have hS2 := fun W => hS W (seal_Take_tot a0 hs 5000 (by omega))
  clear hS
  obtain ⟨⟨t, rest, ok⟩, hu⟩ : ∃ x, unfT a0 = x := ⟨_, rfl⟩
  rw [hu] at hS2
  simp only at hS2
  have hts : t.size ≤ 4000 ∨ ok = false := unfT_size hu
  have HU := Lib.hid hu
  have HP := Lib.hid hp
  have HSE := Lib.hid hS2
  clear hu hp hS2
  go_enter Try.func31, Try.ntmps31
  go_wp2_with fail
  refine (HSE.out _).mono ?_
  rintro e w2 ⟨rfl, hd⟩
  obtain ⟨n2, rfl⟩ := hd.out
  clear hd HSE
  obtain ⟨bok, hbok⟩ : ∃ b, ok = b := ⟨_, rfl⟩
  subst hbok
  cases ok with
  | false =>
    go_wp2
    have hA : ((w.alloc (.cells #[.int .i64 0, .int .i64 0, .int .i64 0, .string ⟨#[]⟩, .string ⟨#[]⟩, .slice none 0 0] 42)).drewN n2).heap[w.heap.size]? = some (.cells #[.int .i64 0, .int .i64 0, .int .i64 0, .string ⟨#[]⟩, .string ⟨#[]⟩, .slice none 0 0] 42 (0, 0)) := heap_alloc_new w _
    have h6 := blk_put' (blk_put' (blk_put' (blk_put' (blk_put' (blk_put' hA 0 (.int .i64 0)) 1 (.int .i64 0)) 2 (.int .i64 0)) 3 (.string ⟨#[]⟩)) 4 (.string ⟨#[]⟩)) 5 (.slice none 0 0)
    refine bodyPost_ret (results_ctt rfl _ _ w.heap.size 42 _ (0, 0) _ rfl h6 Try.underlying42 rfl (by rfl)) rfl ?_
    have hB : Below w.heap.size w ((w.alloc (.cells #[.int .i64 0, .int .i64 0, .int .i64 0, .string ⟨#[]⟩, .string ⟨#[]⟩, .slice none 0 0] 42)).drewN n2) := pw_below_drewN (below_alloc (Below.refl _ _) _) n2
    have e1 : unf a0 = none := by
      have := HU.out
      unfold unfT at this
      cases hq : unf a0 with
      | none => rfl
      | some x => rw [hq] at this; simp at this
    have e2 : p = (z42, ⟨#[]⟩, 10) := by
      rw [← HP.out]
      unfold takeT takeR
      rw [e1]
      rfl
    rw [e2]
    exact ⟨.slice none 0 0, rfl, Kd.R_nil _ _ _ _ _, (((((hB.setCell (p := ⟨w.heap.size, 0, none⟩) (Nat.le_refl _) _).setCell (p := ⟨w.heap.size, 1, none⟩) (Nat.le_refl _) _).setCell (p := ⟨w.heap.size, 2, none⟩) (Nat.le_refl _) _).setCell (p := ⟨w.heap.size, 3, none⟩) (Nat.le_refl _) _).setCell (p := ⟨w.heap.size, 4, none⟩) (Nat.le_refl _) _).setCell (p := ⟨w.heap.size, 5, none⟩) (Nat.le_refl _) _⟩
  | true =>
    have hts : t.size ≤ 4000 := by simpa using hts
    have B0 := Bg.start w n2 t
    have C0 := B0.num
    obtain ⟨⟨x1, s1⟩, h1⟩ : ∃ x, rdN (t, false) = x := ⟨_, rfl⟩
    rw [h1] at C0
    have H1 := Lib.hid h1
    have K0 := Lib.hid C0
    clear B0 C0 h1
    go_wp2_with fail
    refine K0.out.mono ?_
    rintro e w3 ⟨rfl, b1⟩
    clear K0
    have C0 := b1.num
    obtain ⟨⟨x2, s2⟩, h2⟩ : ∃ x, rdN s1 = x := ⟨_, rfl⟩
    rw [h2] at C0
    have H2 := Lib.hid h2
    have K0 := Lib.hid C0
    clear b1 C0 h2
    go_wp2_with fail
    refine K0.out.mono ?_
    rintro e w4 ⟨rfl, b1⟩
    clear K0
    have C0 := b1.num
    obtain ⟨⟨x3, s3⟩, h3⟩ : ∃ x, rdN s2 = x := ⟨_, rfl⟩
    rw [h3] at C0
    have H3 := Lib.hid h3
    have K0 := Lib.hid C0
    clear b1 C0 h3
    go_wp2_with fail
    refine K0.out.mono ?_
    rintro e w5 ⟨rfl, b1⟩
    clear K0
    have c0 : w5.cell? ⟨w.heap.size, 0, none⟩ = some (.int .i64 0) := (b1.cell 0).trans rfl
    have c1 : w5.cell? ⟨w.heap.size, 1, none⟩ = some (.int .i64 0) := (b1.cell 1).trans rfl
    have c2 : w5.cell? ⟨w.heap.size, 2, none⟩ = some (.int .i64 0) := (b1.cell 2).trans rfl
    have c3 : w5.cell? ⟨w.heap.size, 3, none⟩ = some (.string ⟨#[]⟩) := (b1.cell 3).trans rfl
    have c4 : w5.cell? ⟨w.heap.size, 4, none⟩ = some (.string ⟨#[]⟩) := (b1.cell 4).trans rfl
    have c5 : w5.cell? ⟨w.heap.size, 5, none⟩ = some (.slice none 0 0) := (b1.cell 5).trans rfl
    have f0 := b1.free 0
    have f1 := b1.free 1
    have f2 := b1.free 2
    have f3 := b1.free 3
    have f4 := b1.free 4
    have f5 := b1.free 5
    have b2 := (((((b1.put 0 (.int .i64 x1)).put 1 (.int .i64 x2)).put 2 (.int .i64 x3)).put 3 (.string ⟨#[]⟩)).put 4 (.string ⟨#[]⟩)).put 5 (.slice none 0 0)
    have hh : ((((((hd6 0 0 0 ⟨#[]⟩ ⟨#[]⟩ (.slice none 0 0)).setIfInBounds 0 (.int .i64 x1)).setIfInBounds 1 (.int .i64 x2)).setIfInBounds 2 (.int .i64 x3)).setIfInBounds 3 (.string ⟨#[]⟩)).setIfInBounds 4 (.string ⟨#[]⟩)).setIfInBounds 5 (.slice none 0 0) = hd6 x1 x2 x3 ⟨#[]⟩ ⟨#[]⟩ (.slice none 0 0) := rfl
    rw [hh] at b2
    have C0 := b2.num
    obtain ⟨⟨x4, s4⟩, h4⟩ : ∃ x, rdN s3 = x := ⟨_, rfl⟩
    rw [h4] at C0
    have H4 := Lib.hid h4
    have K0 := Lib.hid C0
    clear b1 b2 C0 h4 hh
    go_wp2_with fail
    refine K0.out.mono ?_
    rintro e W ⟨rfl, b1⟩
    clear K0 c0 c1 c2 c3 c4 c5 f0 f1 f2 f3 f4 f5
    have c0 : W.cell? ⟨w.heap.size, 0, none⟩ = some (.int .i64 x1) := (b1.cell 0).trans rfl
    have B1 := Lib.hid b1
    clear b1
    have hz4 : s4.1.size ≤ 4000 := by
      have q1 := rdN_le (t, false)
      have q2 := rdN_le s1
      have q3 := rdN_le s2
      have q4 := rdN_le s3
      rw [H1.out] at q1
      rw [H2.out] at q2
      rw [H3.out] at q3
      rw [H4.out] at q4
      simp only at q1 q2 q3 q4
      omega
    by_cases g1 : x1 = 1
    · have C0 := begin_calls w W (w.heap.size + 1) w.heap.size s4 x1 x2 x3 ⟨#[]⟩ ⟨#[]⟩ (by omega) B1.out
      obtain ⟨⟨⟨key, body, l⟩, st⟩, h5⟩ : ∃ x, rdBegin s4 = x := ⟨_, rfl⟩
      rw [h5] at C0
      simp only at C0
      have hR : rdRec t = (⟨x1, x2, x3, key, body, l⟩, st) := by
        unfold rdRec
        simp only [H1.out, H2.out, H3.out, H4.out, h5]
        rw [if_pos g1]
      have hL : l.length ≤ 5 ∧ (∀ x : S80, x ∈ l → x.f0.size ≤ 140737488351232) ∧ (spell8 x1 x2 x3 key body l).length ≤ 100000 := begin_small hz4 h5
      have HR := Lib.hid hR
      have K0 := Lib.hid C0
      have HL := Lib.hid hL
      clear C0 h5 hR B1 hL
      have g1b : decide (x1 = 1) = true := decide_eq_true g1
      go_wp2_with fail
      refine K0.out.mono ?_
      rintro e W ⟨rfl, v, b1⟩
      clear K0 c0 g1 g1b
      have c0 : W.cell? ⟨w.heap.size, 0, none⟩ = some (.int .i64 x1) := (b1.cell 0).trans rfl
      have c1 : W.cell? ⟨w.heap.size, 1, none⟩ = some (.int .i64 x2) := (b1.cell 1).trans rfl
      have c2 : W.cell? ⟨w.heap.size, 2, none⟩ = some (.int .i64 x3) := (b1.cell 2).trans rfl
      have c3 : W.cell? ⟨w.heap.size, 3, none⟩ = some (.string key) := (b1.cell 3).trans rfl
      have c4 : W.cell? ⟨w.heap.size, 4, none⟩ = some (.string body) := (b1.cell 4).trans rfl
      have c5 : W.cell? ⟨w.heap.size, 5, none⟩ = some v := (b1.cell 5).trans rfl
      have f0 := b1.free 0
      have f1 := b1.free 1
      have f2 := b1.free 2
      have f3 := b1.free 3
      have f4 := b1.free 4
      have f5 := b1.free 5
      obtain ⟨sx, bad⟩ := st
      have cb : W.cell? ⟨w.heap.size + 1, 1, none⟩ = some (.bool bad) := (Lib.cell_of_heap b1.I.1 1).trans rfl
      obtain ⟨A, c, hv, hlc, hC⟩ := Kd.R_reads b1.O
      subst hv
      have BB := Lib.hid b1
      have HC := Lib.hid hC
      clear b1 hC
      cases bad with
      | true =>
        go_wp2
        have h6 := blk_put' (blk_put' (blk_put' (blk_put' (blk_put' (blk_put' BB.out.R 0 (.int .i64 0)) 1 (.int .i64 0)) 2 (.int .i64 0)) 3 (.string ⟨#[]⟩)) 4 (.string ⟨#[]⟩)) 5 (.slice none 0 0)
        refine bodyPost_ret (results_ctt rfl _ _ w.heap.size 42 _ (0, 0) _ rfl h6 Try.underlying42 rfl (by rfl)) rfl ?_
        have hp : p = (z42, ⟨#[]⟩, 10) := by
          rw [← HP.out]
          refine takeT_bad HU.out ?_
          unfold okT
          rw [HR.out]
          rfl
        rw [hp]
        exact ⟨.slice none 0 0, rfl, Kd.R_nil _ _ _ _ _, (((((BB.out.put 0 (.int .i64 0)).put 1 (.int .i64 0)).put 2 (.int .i64 0)).put 3 (.string ⟨#[]⟩)).put 4 (.string ⟨#[]⟩)).put 5 (.slice none 0 0) |>.B⟩
      | false =>
        have hM := record_May.calls 10 x1 x2 x3 key body A c l (okR ⟨x1, x2, x3, key, body, l⟩) W HC.out hlc (record_May_tot ⟨x1, x2, x3, key, body, l⟩ HL.out.2.1 10 (Nat.le_refl _))
        obtain ⟨ok1, hok1⟩ : ∃ b, okR ⟨x1, x2, x3, key, body, l⟩ = b := ⟨_, rfl⟩
        rw [hok1] at hM
        have HM := Lib.hid hM
        have HO := Lib.hid hok1
        clear hM hok1
        go_wp2_with fail
        refine HM.out.mono ?_
        rintro e W2 ⟨rfl, hb2⟩
        clear c0 c1 c2 c3 c4 c5 f0 f1 f2 f3 f4 f5 cb HM
        have b1 := BB.out.below hb2
        have c0 : W2.cell? ⟨w.heap.size, 0, none⟩ = some (.int .i64 x1) := (b1.cell 0).trans rfl
        have c1 : W2.cell? ⟨w.heap.size, 1, none⟩ = some (.int .i64 x2) := (b1.cell 1).trans rfl
        have c2 : W2.cell? ⟨w.heap.size, 2, none⟩ = some (.int .i64 x3) := (b1.cell 2).trans rfl
        have c3 : W2.cell? ⟨w.heap.size, 3, none⟩ = some (.string key) := (b1.cell 3).trans rfl
        have c4 : W2.cell? ⟨w.heap.size, 4, none⟩ = some (.string body) := (b1.cell 4).trans rfl
        have c5 : W2.cell? ⟨w.heap.size, 5, none⟩ = some (.slice A l.length c) := (b1.cell 5).trans rfl
        have f0 := b1.free 0
        have f1 := b1.free 1
        have f2 := b1.free 2
        have f3 := b1.free 3
        have f4 := b1.free 4
        have f5 := b1.free 5
        obtain ⟨A', c', hv, hlc', hC'⟩ := Kd.R_reads b1.O
        simp only [Value.slice.injEq, true_and] at hv
        obtain ⟨rfl, rfl⟩ := hv
        have B2 := Lib.hid b1
        cases ok1 with
        | false =>
          clear b1 hC' BB HC hb2
          go_wp2
          have h6 := blk_put' (blk_put' (blk_put' (blk_put' (blk_put' (blk_put' B2.out.R 0 (.int .i64 0)) 1 (.int .i64 0)) 2 (.int .i64 0)) 3 (.string ⟨#[]⟩)) 4 (.string ⟨#[]⟩)) 5 (.slice none 0 0)
          refine bodyPost_ret (results_ctt rfl _ _ w.heap.size 42 _ (0, 0) _ rfl h6 Try.underlying42 rfl (by rfl)) rfl ?_
          have hp : p = (z42, ⟨#[]⟩, 10) := by
            rw [← HP.out]
            refine takeT_bad HU.out ?_
            unfold okT
            rw [HR.out]
            simp only [HO.out]
            rfl
          rw [hp]
          exact ⟨.slice none 0 0, rfl, Kd.R_nil _ _ _ _ _, (((((B2.out.put 0 (.int .i64 0)).put 1 (.int .i64 0)).put 2 (.int .i64 0)).put 3 (.string ⟨#[]⟩)).put 4 (.string ⟨#[]⟩)).put 5 (.slice none 0 0) |>.B⟩
        | true =>
          have hM := record_spell.calls x1 x2 x3 key body A c l (spellR ⟨x1, x2, x3, key, body, l⟩) W2 hC' hlc' (by unfold record_spell.f; rw [if_pos HL.out.2.2]; rfl)
          obtain ⟨sp, hsp⟩ : ∃ b, spellR ⟨x1, x2, x3, key, body, l⟩ = b := ⟨_, rfl⟩
          rw [hsp] at hM
          have HM := Lib.hid hM
          have HS := Lib.hid hsp
          clear hM hsp b1 hC' BB HC hb2
          go_wp2_with fail
          refine HM.out.mono ?_
          rintro e W3 ⟨rfl, hb3⟩
          clear c0 c1 c2 c3 c4 c5 f0 f1 f2 f3 f4 f5 HM
          have b1 := B2.out.below hb3
          have c0 : W3.cell? ⟨w.heap.size, 0, none⟩ = some (.int .i64 x1) := (b1.cell 0).trans rfl
          have c1 : W3.cell? ⟨w.heap.size, 1, none⟩ = some (.int .i64 x2) := (b1.cell 1).trans rfl
          have c2 : W3.cell? ⟨w.heap.size, 2, none⟩ = some (.int .i64 x3) := (b1.cell 2).trans rfl
          have c3 : W3.cell? ⟨w.heap.size, 3, none⟩ = some (.string key) := (b1.cell 3).trans rfl
          have c4 : W3.cell? ⟨w.heap.size, 4, none⟩ = some (.string body) := (b1.cell 4).trans rfl
          have c5 : W3.cell? ⟨w.heap.size, 5, none⟩ = some (.slice A l.length c) := (b1.cell 5).trans rfl
          have f0 := b1.free 0
          have f1 := b1.free 1
          have f2 := b1.free 2
          have f3 := b1.free 3
          have f4 := b1.free 4
          have f5 := b1.free 5
          have B3 := Lib.hid b1
          clear b1 hb3 B2
          by_cases ge : sp = t
          · subst ge
            go_wp2
            have b6 := (((((B3.out.put 0 (.int .i64 x1)).put 1 (.int .i64 x2)).put 2 (.int .i64 x3)).put 3 (.string key)).put 4 (.string body)).put 5 (.slice A l.length c)
            refine bodyPost_ret (results_ctt rfl _ _ w.heap.size 42 _ (0, 0) _ rfl b6.R Try.underlying42 rfl (by rfl)) rfl ?_
            have hp : p = (⟨x1, x2, x3, key, body, l⟩, rest, 0) := by
              rw [← HP.out, takeT_good HU.out (by unfold okT; rw [HR.out]; simp only [HO.out, HS.out]; simp), HR.out]
            rw [hp]
            exact ⟨.slice A l.length c, rfl, Kd.R_mono b6.O (fun _ _ => trivial), b6.B⟩
          · have geb : (sp.toList == t.toList) = false := by
              cases hq : sp.toList == t.toList with
              | false => rfl
              | true => exact absurd (toList_inj (by simpa using hq)) ge
            go_wp2
            have h6 := blk_put' (blk_put' (blk_put' (blk_put' (blk_put' (blk_put' B3.out.R 0 (.int .i64 0)) 1 (.int .i64 0)) 2 (.int .i64 0)) 3 (.string ⟨#[]⟩)) 4 (.string ⟨#[]⟩)) 5 (.slice none 0 0)
            refine bodyPost_ret (results_ctt rfl _ _ w.heap.size 42 _ (0, 0) _ rfl h6 Try.underlying42 rfl (by rfl)) rfl ?_
            have hp : p = (z42, ⟨#[]⟩, 10) := by
              rw [← HP.out]
              refine takeT_bad HU.out ?_
              unfold okT
              rw [HR.out]
              simp only [HO.out, HS.out]
              simp [ge]
            rw [hp]
            exact ⟨.slice none 0 0, rfl, Kd.R_nil _ _ _ _ _, (((((B3.out.put 0 (.int .i64 0)).put 1 (.int .i64 0)).put 2 (.int .i64 0)).put 3 (.string ⟨#[]⟩)).put 4 (.string ⟨#[]⟩)).put 5 (.slice none 0 0) |>.B⟩
    · have g1b : decide (x1 = 1) = false := decide_eq_false g1
      obtain ⟨key, body, v, l, st, hk, hbd, hl, hst, b1⟩ : ∃ key body v l st, key = ⟨#[]⟩ ∧ body = ⟨#[]⟩ ∧ l = [] ∧ st = s4 ∧ Bg w (w.heap.size + 1) w.heap.size st (hd6 x1 x2 x3 key body v) v l W := ⟨_, _, _, _, _, rfl, rfl, rfl, rfl, B1.out⟩
      have hR : rdRec t = (⟨x1, x2, x3, key, body, l⟩, st) := by
        unfold rdRec
        simp only [H1.out, H2.out, H3.out, H4.out]
        rw [if_neg g1, hk, hbd, hl, hst]
      have hL : l.length ≤ 5 ∧ (∀ x : S80, x ∈ l → x.f0.size ≤ 140737488351232) ∧ (spell8 x1 x2 x3 key body l).length ≤ 100000 := by
        rw [hl]
        refine ⟨by simp, by simp, ?_⟩
        unfold spell8
        rw [if_neg g1]
        simp [Writer.be32]
      have HR := Lib.hid hR
      have HL := Lib.hid hL
      clear hR hL hst hl hk hbd B1
      clear c0
      have c0 : W.cell? ⟨w.heap.size, 0, none⟩ = some (.int .i64 x1) := (b1.cell 0).trans rfl
      have c1 : W.cell? ⟨w.heap.size, 1, none⟩ = some (.int .i64 x2) := (b1.cell 1).trans rfl
      have c2 : W.cell? ⟨w.heap.size, 2, none⟩ = some (.int .i64 x3) := (b1.cell 2).trans rfl
      have c3 : W.cell? ⟨w.heap.size, 3, none⟩ = some (.string key) := (b1.cell 3).trans rfl
      have c4 : W.cell? ⟨w.heap.size, 4, none⟩ = some (.string body) := (b1.cell 4).trans rfl
      have c5 : W.cell? ⟨w.heap.size, 5, none⟩ = some v := (b1.cell 5).trans rfl
      have f0 := b1.free 0
      have f1 := b1.free 1
      have f2 := b1.free 2
      have f3 := b1.free 3
      have f4 := b1.free 4
      have f5 := b1.free 5
      obtain ⟨sx, bad⟩ := st
      have cb : W.cell? ⟨w.heap.size + 1, 1, none⟩ = some (.bool bad) := (Lib.cell_of_heap b1.I.1 1).trans rfl
      obtain ⟨A, c, hv, hlc, hC⟩ := Kd.R_reads b1.O
      subst hv
      have BB := Lib.hid b1
      have HC := Lib.hid hC
      clear b1 hC
      cases bad with
      | true =>
        go_wp2
        have h6 := blk_put' (blk_put' (blk_put' (blk_put' (blk_put' (blk_put' BB.out.R 0 (.int .i64 0)) 1 (.int .i64 0)) 2 (.int .i64 0)) 3 (.string ⟨#[]⟩)) 4 (.string ⟨#[]⟩)) 5 (.slice none 0 0)
        refine bodyPost_ret (results_ctt rfl _ _ w.heap.size 42 _ (0, 0) _ rfl h6 Try.underlying42 rfl (by rfl)) rfl ?_
        have hp : p = (z42, ⟨#[]⟩, 10) := by
          rw [← HP.out]
          refine takeT_bad HU.out ?_
          unfold okT
          rw [HR.out]
          rfl
        rw [hp]
        exact ⟨.slice none 0 0, rfl, Kd.R_nil _ _ _ _ _, (((((BB.out.put 0 (.int .i64 0)).put 1 (.int .i64 0)).put 2 (.int .i64 0)).put 3 (.string ⟨#[]⟩)).put 4 (.string ⟨#[]⟩)).put 5 (.slice none 0 0) |>.B⟩
      | false =>
        have hM := record_May.calls 10 x1 x2 x3 key body A c l (okR ⟨x1, x2, x3, key, body, l⟩) W HC.out hlc (record_May_tot ⟨x1, x2, x3, key, body, l⟩ HL.out.2.1 10 (Nat.le_refl _))
        obtain ⟨ok1, hok1⟩ : ∃ b, okR ⟨x1, x2, x3, key, body, l⟩ = b := ⟨_, rfl⟩
        rw [hok1] at hM
        have HM := Lib.hid hM
        have HO := Lib.hid hok1
        clear hM hok1
        go_wp2_with fail
        refine HM.out.mono ?_
        rintro e W2 ⟨rfl, hb2⟩
        clear c0 c1 c2 c3 c4 c5 f0 f1 f2 f3 f4 f5 cb HM
        have b1 := BB.out.below hb2
        have c0 : W2.cell? ⟨w.heap.size, 0, none⟩ = some (.int .i64 x1) := (b1.cell 0).trans rfl
        have c1 : W2.cell? ⟨w.heap.size, 1, none⟩ = some (.int .i64 x2) := (b1.cell 1).trans rfl
        have c2 : W2.cell? ⟨w.heap.size, 2, none⟩ = some (.int .i64 x3) := (b1.cell 2).trans rfl
        have c3 : W2.cell? ⟨w.heap.size, 3, none⟩ = some (.string key) := (b1.cell 3).trans rfl
        have c4 : W2.cell? ⟨w.heap.size, 4, none⟩ = some (.string body) := (b1.cell 4).trans rfl
        have c5 : W2.cell? ⟨w.heap.size, 5, none⟩ = some (.slice A l.length c) := (b1.cell 5).trans rfl
        have f0 := b1.free 0
        have f1 := b1.free 1
        have f2 := b1.free 2
        have f3 := b1.free 3
        have f4 := b1.free 4
        have f5 := b1.free 5
        obtain ⟨A', c', hv, hlc', hC'⟩ := Kd.R_reads b1.O
        simp only [Value.slice.injEq, true_and] at hv
        obtain ⟨rfl, rfl⟩ := hv
        have B2 := Lib.hid b1
        cases ok1 with
        | false =>
          clear b1 hC' BB HC hb2
          go_wp2
          have h6 := blk_put' (blk_put' (blk_put' (blk_put' (blk_put' (blk_put' B2.out.R 0 (.int .i64 0)) 1 (.int .i64 0)) 2 (.int .i64 0)) 3 (.string ⟨#[]⟩)) 4 (.string ⟨#[]⟩)) 5 (.slice none 0 0)
          refine bodyPost_ret (results_ctt rfl _ _ w.heap.size 42 _ (0, 0) _ rfl h6 Try.underlying42 rfl (by rfl)) rfl ?_
          have hp : p = (z42, ⟨#[]⟩, 10) := by
            rw [← HP.out]
            refine takeT_bad HU.out ?_
            unfold okT
            rw [HR.out]
            simp only [HO.out]
            rfl
          rw [hp]
          exact ⟨.slice none 0 0, rfl, Kd.R_nil _ _ _ _ _, (((((B2.out.put 0 (.int .i64 0)).put 1 (.int .i64 0)).put 2 (.int .i64 0)).put 3 (.string ⟨#[]⟩)).put 4 (.string ⟨#[]⟩)).put 5 (.slice none 0 0) |>.B⟩
        | true =>
          have hM := record_spell.calls x1 x2 x3 key body A c l (spellR ⟨x1, x2, x3, key, body, l⟩) W2 hC' hlc' (by unfold record_spell.f; rw [if_pos HL.out.2.2]; rfl)
          obtain ⟨sp, hsp⟩ : ∃ b, spellR ⟨x1, x2, x3, key, body, l⟩ = b := ⟨_, rfl⟩
          rw [hsp] at hM
          have HM := Lib.hid hM
          have HS := Lib.hid hsp
          clear hM hsp b1 hC' BB HC hb2
          go_wp2_with fail
          refine HM.out.mono ?_
          rintro e W3 ⟨rfl, hb3⟩
          clear c0 c1 c2 c3 c4 c5 f0 f1 f2 f3 f4 f5 HM
          have b1 := B2.out.below hb3
          have c0 : W3.cell? ⟨w.heap.size, 0, none⟩ = some (.int .i64 x1) := (b1.cell 0).trans rfl
          have c1 : W3.cell? ⟨w.heap.size, 1, none⟩ = some (.int .i64 x2) := (b1.cell 1).trans rfl
          have c2 : W3.cell? ⟨w.heap.size, 2, none⟩ = some (.int .i64 x3) := (b1.cell 2).trans rfl
          have c3 : W3.cell? ⟨w.heap.size, 3, none⟩ = some (.string key) := (b1.cell 3).trans rfl
          have c4 : W3.cell? ⟨w.heap.size, 4, none⟩ = some (.string body) := (b1.cell 4).trans rfl
          have c5 : W3.cell? ⟨w.heap.size, 5, none⟩ = some (.slice A l.length c) := (b1.cell 5).trans rfl
          have f0 := b1.free 0
          have f1 := b1.free 1
          have f2 := b1.free 2
          have f3 := b1.free 3
          have f4 := b1.free 4
          have f5 := b1.free 5
          have B3 := Lib.hid b1
          clear b1 hb3 B2
          by_cases ge : sp = t
          · subst ge
            go_wp2
            have b6 := (((((B3.out.put 0 (.int .i64 x1)).put 1 (.int .i64 x2)).put 2 (.int .i64 x3)).put 3 (.string key)).put 4 (.string body)).put 5 (.slice A l.length c)
            refine bodyPost_ret (results_ctt rfl _ _ w.heap.size 42 _ (0, 0) _ rfl b6.R Try.underlying42 rfl (by rfl)) rfl ?_
            have hp : p = (⟨x1, x2, x3, key, body, l⟩, rest, 0) := by
              rw [← HP.out, takeT_good HU.out (by unfold okT; rw [HR.out]; simp only [HO.out, HS.out]; simp), HR.out]
            rw [hp]
            exact ⟨.slice A l.length c, rfl, Kd.R_mono b6.O (fun _ _ => trivial), b6.B⟩
          · have geb : (sp.toList == t.toList) = false := by
              cases hq : sp.toList == t.toList with
              | false => rfl
              | true => exact absurd (toList_inj (by simpa using hq)) ge
            go_wp2
            have h6 := blk_put' (blk_put' (blk_put' (blk_put' (blk_put' (blk_put' B3.out.R 0 (.int .i64 0)) 1 (.int .i64 0)) 2 (.int .i64 0)) 3 (.string ⟨#[]⟩)) 4 (.string ⟨#[]⟩)) 5 (.slice none 0 0)
            refine bodyPost_ret (results_ctt rfl _ _ w.heap.size 42 _ (0, 0) _ rfl h6 Try.underlying42 rfl (by rfl)) rfl ?_
            have hp : p = (z42, ⟨#[]⟩, 10) := by
              rw [← HP.out]
              refine takeT_bad HU.out ?_
              unfold okT
              rw [HR.out]
              simp only [HO.out, HS.out]
              simp [ge]
            rw [hp]
            exact ⟨.slice none 0 0, rfl, Kd.R_nil _ _ _ _ _, (((((B3.out.put 0 (.int .i64 0)).put 1 (.int .i64 0)).put 2 (.int .i64 0)).put 3 (.string ⟨#[]⟩)).put 4 (.string ⟨#[]⟩)).put 5 (.slice none 0 0) |>.B⟩
def record_Take.f (a0 : ByteArray) : Option (Int × Int × Int × ByteArray × ByteArray × (List (S80)) × ByteArray × Int) :=
  if a0.size ≤ 1000000000 then some ((takeT a0).1.f0, (takeT a0).1.f1, (takeT a0).1.f2, (takeT a0).1.f3, (takeT a0).1.f4, (takeT a0).1.f5, (takeT a0).2.1, (takeT a0).2.2) else none
theorem record_Take.calls (a0 : ByteArray) (r1 : Int) (r2 : Int) (r3 : Int) (r4 : ByteArray) (r5 : ByteArray) (r6 : List (S80)) (r7 : ByteArray) (r8 : Int) (w : World) (h : record_Take.f a0 = some (r1, r2, r3, r4, r5, r6, r7, r8)) :
    Calls Try.prog 31 #[.string a0] w fun e w' => ∃ v5_ : Value, e = .returned (.tuple #[.agg #[.int .i64 r1, .int .i64 r2, .int .i64 r3, .string r4, .string r5, v5_], .string r7, .int .i64 r8]) ∧ Kd.R k80 80 w' w.heap.size (fun _ => True) v5_ r6 ∧ Below w.heap.size w w' := by
  unfold record_Take.f at h
  by_cases hs : a0.size ≤ 1000000000
  · rw [if_pos hs] at h
    simp only [Option.some.injEq, Prod.mk.injEq] at h
    obtain ⟨rfl, rfl, rfl, rfl, rfl, rfl, rfl, rfl⟩ := h
    exact Take_calls a0 hs w
  · rw [if_neg hs] at h; simp at h
end Go.Proofs.Ytmhjhhlgdenlkaa.P
namespace Go.Proofs.Ytmhjhhlgdenlkaa.P
open Go.RowKit Go.Proofs.YtmhjhhlgdenlkaaW.PrintWords Go.Proofs.YtmhjhhlgdenlkaaW.PrintLast Go.Proofs.YtmhjhhlgdenlkaaW.PrintMore
attribute [local go_sem] max2_int min2_int max_two min_two
set_option linter.unusedVariables false
set_option linter.unusedSimpArgs false
def journal_Scan.l0 : Nat → ByteArray → List (S42) → Int → Option ((List (S42)) × Int)
  | 0, _, _, _ => none
  | k + 1, x0, x2, x3 => if x3 < (x0.size : Int) then (if 0 ≤ x3 then (if x3 ≤ (x0.size : Int) then ((record_Take.f (x0.extract (x3 : Int).toNat x0.size)).bind fun bt217 => (if bt217.2.2.2.2.2.2.2 = 0 then (if x2.length < 1759218604441 then (journal_Scan.l0 k x0 (x2 ++ [(⟨bt217.1, bt217.2.1, bt217.2.2.1, bt217.2.2.2.1, bt217.2.2.2.2.1, bt217.2.2.2.2.2.1⟩ : S42)]) (wrap64 ((x0.size : Int) - (bt217.2.2.2.2.2.2.1.size : Int)))) else (none)) else (some (x2, x3)))) else (none)) else (none)) else (some (x2, x3))
def journal_Scan.f (k : Nat) (a0 : ByteArray) : Option ((List (S42)) × Int) := journal_Scan.l0 k a0 ([] : List (S42)) 0
set_option maxHeartbeats 8000000 in
set_option maxRecDepth 100000 in
theorem journal_Scan.calls (k : Nat) (a0 : ByteArray) (r1 : List (S42)) (r2 : Int) (w : World) (h : journal_Scan.f k a0 = some (r1, r2)) :
    Calls Try.prog 17 #[.string a0] w fun e w' => ∃ v0_ : Value, e = .returned (.tuple #[v0_, .int .i64 r2]) ∧ Kd.S k42 42 w' w.heap.size (fun _ => True) v0_ r1 ∧ Below w.heap.size w w' := by
  have hu42 := Try.underlying42
  have HB := Aside0.mk (Below.refl w.heap.size w)
  have H : (journal_Scan.l0 k a0 ([] : List (S42)) 0) = some (r1, r2) := h
  clear h
  have H' := Aside0.mk H
  clear H
  go_enter Try.func17, Try.ntmps17
  go_wp2
  go_loopg [2, 3] k (fun kq v2 v3 w' => ∃ (x2_1 : List (S42)) (x3_1 : Int), v3 = .int .i64 x3_1 ∧ Aside0 (journal_Scan.l0 kq a0 x2_1 x3_1 = some (r1, r2)) ∧ Aside0 (kq ≤ k) ∧ Aside0 (Kd.S k42 42 w' w.heap.size (fun _ => True) v2 x2_1) ∧ Aside0 (Below w.heap.size w w'))
  case atStart => exact ⟨(([] : List (S42))), (0), (by first | rfl | (simp; done) | (simp [*]; done)), H', ⟨Nat.le_refl _⟩, ⟨by first | exact Kd.S_nil _ _ _ _ _ | exact Kd.N_nil _ _ _ _ _ | exact Kd.V_nil _ _ _ _ _ | exact Kd.Q_nil _ _ _ _ _ | exact Kd.R_nil _ _ _ _ _⟩, ⟨by repeat (first | (with_reducible first | exact HB.out | apply below_alloc | apply pw_below_drewN | apply below_drew1) | exact HB.out)⟩⟩
  case round =>
    clear H'
    try clear c1
    obtain ⟨x2_1, x3_1, rfl, HA, HK1, HO_2, HB⟩ := hrel
    cases gk with
    | zero => exact absurd HA.out (by simp [journal_Scan.l0])
    | succ k1 =>
      have H := HA.out
      clear HA
      simp only [journal_Scan.l0] at H
      by_cases c2 : x3_1 < (a0.size : Int)
      · rw [if_pos c2] at H
        have c2b0 : decide (x3_1 < (a0.size : Int)) = true := decide_eq_true c2
        clear c2
        by_cases c3 : 0 ≤ x3_1
        · rw [if_pos c3] at H
          have c3b0 := eq_true c3
          have c3b1 : decide (0 ≤ x3_1) = true := decide_eq_true c3
          clear c3
          by_cases c4 : x3_1 ≤ (a0.size : Int)
          · rw [if_pos c4] at H
            have c4b0 := eq_true c4
            have c4b1 : decide (x3_1 ≤ (a0.size : Int)) = true := decide_eq_true c4
            clear c4
            replace H := Option.bind_eq_some_iff.mp H
            obtain ⟨⟨t217, t218, t219, t220, t221, t222, t225, t226⟩, A50, H⟩ := H
            replace H : (if t226 = 0 then (if x2_1.length < 1759218604441 then (journal_Scan.l0 k1 a0 (x2_1 ++ [(⟨t217, t218, t219, t220, t221, t222⟩ : S42)]) (wrap64 ((a0.size : Int) - (t225.size : Int)))) else (none)) else (some (x2_1, x3_1))) = some (r1, r2) := H
            have A5 := Aside0.mk A50
            clear A50
            by_cases c6 : t226 = 0
            · rw [if_pos c6] at H
              have c6b0 : (t226 == 0) = true := beq_iff_eq.mpr c6
              have c6b1 : (t226 != 0) = false := bne_eq_false_iff_eq.mpr c6
              clear c6
              by_cases c7 : x2_1.length < 1759218604441
              · rw [if_pos c7] at H
                have LMc7 := Aside0.mk c7
                clear c7
                obtain ⟨y228, hy228⟩ : ∃ y_ : List (S42), y_ = (x2_1 ++ [(⟨t217, t218, t219, t220, t221, t222⟩ : S42)]) := ⟨_, rfl⟩
                replace H : (journal_Scan.l0 k1 a0 y228 (wrap64 ((a0.size : Int) - (t225.size : Int)))) = some (r1, r2) := by first | (rw [hy228]; with_reducible exact H) | (have H2_ := (Option.bind_some _ _).symm.trans H; rw [hy228]; with_reducible exact H2_) | (have H2_ := (Option.bind_some _ _).symm.trans H; with_reducible exact H2_) | with_reducible exact H | (rw [hy228]; exact H) | exact H
                have Ny228 := Aside0.mk hy228
                clear hy228
                have H' := Aside0.mk H
                clear H
                go_wp2_with (first | ((with_reducible refine gate_callee (f := 31) rfl ?_); refine goesL_ (some 15) rfl rfl Try.func31 (by kernel_rfl) rfl #[.string (a0.extract (x3_1 : Int).toNat a0.size)] rfl (by (try simp only [List.map_toArray, List.map_cons, List.map_nil]); first | done | rfl | (simp only [List.length_drop, List.length_take]; rfl)) ?_; (with_reducible refine (record_Take.calls (a0.extract (x3_1 : Int).toNat a0.size) t217 t218 t219 t220 t221 t222 t225 t226 _ A5.out).mono ?_); rintro e w8 ⟨v223, rfl, ho0, hb⟩; refine ⟨_, rfl, ?_⟩; have n0_ := Aside0.mk (Kd.S_elder' (by (with_reducible repeat (first | apply Kd.S_alloc | apply Kd.S_drewN | apply Kd.S_drew)); exact HO_2.out) (Kd.R_base ho0) hb); have n1_ := Aside0.mk (Kd.R_lower ho0 (below_size (by repeat (first | (with_reducible first | exact HB.out | apply below_alloc | apply pw_below_drewN | apply below_drew1) | exact HB.out)))); have n2_ := Aside0.mk (below_step (by repeat (first | (with_reducible first | exact HB.out | apply below_alloc | apply pw_below_drewN | apply below_drew1) | exact HB.out)) hb); clear HO_2; clear HB; have HO_2 := n0_; have HO224 := n1_; have HB := n2_; clear n0_ n1_ n2_; (try clear hb); (try clear hb2); (try clear hk); (try clear hi); (try clear ho0)) | ((with_reducible refine gate_dst (N := 4) rfl ?_); refine box_event ?hg (N := 4) ?hd (cs := #[.int .i64 0, .int .i64 0, .int .i64 0, .string (⟨#[]⟩ : ByteArray), .string (⟨#[]⟩ : ByteArray), .slice none 0 0]) (t := 42) ?hr ?_; (case hd => rfl); (case hg => rfl); (case hr => first | (go_simp; done) | (go_simp; rfl)); intro gb227 hg w9 hbox hb; have n0_ := Aside0.mk (Kd.S_below (Kd.S_elderB (by (with_reducible repeat (first | apply Kd.S_alloc | apply Kd.S_drewN | apply Kd.S_drew)); exact HO_2.out) gb227 (Nat.le_of_eq hg.symm)) hb); have n1_ := Aside0.mk (Kd.R_below (by (with_reducible repeat (first | apply Kd.R_alloc | apply Kd.R_drewN | apply Kd.R_drew)); exact HO224.out) hb); have n2_ := Aside0.mk (below_step (by repeat (first | (with_reducible first | exact HB.out | apply below_alloc | apply pw_below_drewN | apply below_drew1) | exact HB.out)) hb); have n3_ := Aside0.mk (hbox); have n4_ := Aside0.mk ((by rw [hg]; exact (below_size (by repeat (first | (with_reducible first | exact HB.out | apply below_alloc | apply pw_below_drewN | apply below_drew1) | exact HB.out))) : w.heap.size ≤ gb227)); have n5_ := Aside0.mk ((by rw [hg]; exact (below_size (by repeat (first | (with_reducible first | exact HB.out | apply below_alloc | apply pw_below_drewN | apply below_drew1) | exact HB.out))) : w.heap.size ≤ gb227)); clear HO_2; clear HO224; clear HB; have HO_2 := n0_; have HO224 := n1_; have HB := n2_; have BK227 := n3_; have GW227 := n4_; have GE227 := n5_; clear n0_ n1_ n2_ n3_ n4_ n5_; clear hb hbox hg; have hcz10_0 : w9.cell? ⟨gb227, 0, none⟩ = some (.int .i64 0) := (blk_cell BK227.out 0).trans rfl; have hcz10_1 : w9.cell? ⟨gb227, 1, none⟩ = some (.int .i64 0) := (blk_cell BK227.out 1).trans rfl; have hcz10_2 : w9.cell? ⟨gb227, 2, none⟩ = some (.int .i64 0) := (blk_cell BK227.out 2).trans rfl; have hcz10_3 : w9.cell? ⟨gb227, 3, none⟩ = some (.string (⟨#[]⟩ : ByteArray)) := (blk_cell BK227.out 3).trans rfl; have hcz10_4 : w9.cell? ⟨gb227, 4, none⟩ = some (.string (⟨#[]⟩ : ByteArray)) := (blk_cell BK227.out 4).trans rfl; have hcz10_5 : w9.cell? ⟨gb227, 5, none⟩ = some (.slice none 0 0) := (blk_cell BK227.out 5).trans rfl; have hfz10_0 := blk_frozen BK227.out 0; have hfz10_1 := blk_frozen BK227.out 1; have hfz10_2 := blk_frozen BK227.out 2; have hfz10_3 := blk_frozen BK227.out 3; have hfz10_4 := blk_frozen BK227.out 4; have hfz10_5 := blk_frozen BK227.out 5; obtain ⟨Ao11, co11, eo11⟩ := Kd.R_slice HO224.out; subst eo11) | ((with_reducible refine gate_store (t := 42) (p := 4) rfl ?_); refine store_event (t := 42) (p := 4) (v := ?vo_w12) (w1 := ((((((w9.setCell ⟨gb227, 0, none⟩ (.int .i64 t217)).setCell ⟨gb227, 1, none⟩ (.int .i64 t218)).setCell ⟨gb227, 2, none⟩ (.int .i64 t219)).setCell ⟨gb227, 3, none⟩ (.string t220)).setCell ⟨gb227, 4, none⟩ (.string t221)).setCell ⟨gb227, 5, none⟩ (.slice Ao11 t222.length co11))) ?hg ?ho ?hn ?hr ?_; (case ho => rfl); (case hg => rfl); (case hn => rfl); (case hr => first | (go_simp; done) | (go_simp; rfl)); intro w12 hw; have n0_ : Aside0 (Kd.S k42 42 w12 w.heap.size (fun k_ => some k_ ≠ (.slice Ao11 t222.length co11 : Value).ownBlock ∧ k_ ≠ gb227) u2 x2_1) := ⟨(by rw [hw]; exact (by (with_reducible repeat (first | apply Kd.S_alloc | apply Kd.S_drewN | apply Kd.S_drew)); exact Kd.S_mono (Kd.S_far (p := ⟨gb227, 5, none⟩) (Kd.S_far (p := ⟨gb227, 4, none⟩) (Kd.S_far (p := ⟨gb227, 3, none⟩) (Kd.S_far (p := ⟨gb227, 2, none⟩) (Kd.S_far (p := ⟨gb227, 1, none⟩) (Kd.S_far (p := ⟨gb227, 0, none⟩) (Kd.S_mono HO_2.out (fun k_ hk => (⟨hk, hk.2⟩ : _ ∧ k_ ≠ gb227))) (fun _ hk => hk.2) (.int .i64 t217)) (fun _ hk => hk.2) (.int .i64 t218)) (fun _ hk => hk.2) (.int .i64 t219)) (fun _ hk => hk.2) (.string t220)) (fun _ hk => hk.2) (.string t221)) (fun _ hk => hk.2) (.slice Ao11 t222.length co11)) (fun _ hk => ⟨hk.1.1.2, hk.1.2⟩)))⟩; have n1_ : Aside0 (Kd.R k80 80 w12 w.heap.size (fun _ => True) (.slice Ao11 t222.length co11) t222) := ⟨(by rw [hw]; exact (by (with_reducible repeat (first | apply Kd.R_alloc | apply Kd.R_drewN | apply Kd.R_drew)); exact Kd.R_mono (Kd.R_far (p := ⟨gb227, 5, none⟩) (Kd.R_far (p := ⟨gb227, 4, none⟩) (Kd.R_far (p := ⟨gb227, 3, none⟩) (Kd.R_far (p := ⟨gb227, 2, none⟩) (Kd.R_far (p := ⟨gb227, 1, none⟩) (Kd.R_far (p := ⟨gb227, 0, none⟩) (Kd.R_types HO224.out BK227.out (by decide)) (fun _ hk => hk.2) (.int .i64 t217)) (fun _ hk => hk.2) (.int .i64 t218)) (fun _ hk => hk.2) (.int .i64 t219)) (fun _ hk => hk.2) (.string t220)) (fun _ hk => hk.2) (.string t221)) (fun _ hk => hk.2) (.slice Ao11 t222.length co11)) (fun _ hk => trivial)))⟩; have n2_ : Aside0 (w12.heap[gb227]? = some (.cells #[.int .i64 t217, .int .i64 t218, .int .i64 t219, .string t220, .string t221, .slice Ao11 t222.length co11] 42 (0, 0))) := ⟨(by rw [hw]; exact (by (with_reducible repeat (first | refine blk_drewN ?_ _ | refine blk_drew ?_ | refine blk_alloc ?_ _)); refine blk_put (cs := #[.int .i64 t217, .int .i64 t218, .int .i64 t219, .string t220, .string t221, .slice none 0 0]) ?_ 5 _ rfl; (with_reducible repeat (first | refine blk_drewN ?_ _ | refine blk_drew ?_ | refine blk_alloc ?_ _)); refine blk_put (cs := #[.int .i64 t217, .int .i64 t218, .int .i64 t219, .string t220, .string (⟨#[]⟩ : ByteArray), .slice none 0 0]) ?_ 4 _ rfl; (with_reducible repeat (first | refine blk_drewN ?_ _ | refine blk_drew ?_ | refine blk_alloc ?_ _)); refine blk_put (cs := #[.int .i64 t217, .int .i64 t218, .int .i64 t219, .string (⟨#[]⟩ : ByteArray), .string (⟨#[]⟩ : ByteArray), .slice none 0 0]) ?_ 3 _ rfl; (with_reducible repeat (first | refine blk_drewN ?_ _ | refine blk_drew ?_ | refine blk_alloc ?_ _)); refine blk_put (cs := #[.int .i64 t217, .int .i64 t218, .int .i64 0, .string (⟨#[]⟩ : ByteArray), .string (⟨#[]⟩ : ByteArray), .slice none 0 0]) ?_ 2 _ rfl; (with_reducible repeat (first | refine blk_drewN ?_ _ | refine blk_drew ?_ | refine blk_alloc ?_ _)); refine blk_put (cs := #[.int .i64 t217, .int .i64 0, .int .i64 0, .string (⟨#[]⟩ : ByteArray), .string (⟨#[]⟩ : ByteArray), .slice none 0 0]) ?_ 1 _ rfl; (with_reducible repeat (first | refine blk_drewN ?_ _ | refine blk_drew ?_ | refine blk_alloc ?_ _)); refine blk_put (cs := #[.int .i64 0, .int .i64 0, .int .i64 0, .string (⟨#[]⟩ : ByteArray), .string (⟨#[]⟩ : ByteArray), .slice none 0 0]) ?_ 0 _ rfl; (with_reducible repeat (first | refine blk_drewN ?_ _ | refine blk_drew ?_ | refine blk_alloc ?_ _)); exact BK227.out))⟩; have n3_ : Aside0 (Below w.heap.size w w12) := ⟨(by rw [hw]; exact (by repeat (first | (with_reducible first | exact HB.out | apply below_alloc | apply pw_below_drewN | apply below_drew1 | refine below_set ?_ GE227.out) | exact HB.out)))⟩; clear hw; clear HO_2; clear HO224; clear BK227; clear HB; have HO_2 := n0_; have HO224 := n1_; have BK227 := n2_; have HB := n3_; clear n0_ n1_ n2_ n3_; have hcz13_0 : w12.cell? ⟨gb227, 0, none⟩ = some (.int .i64 t217) := (blk_cell BK227.out 0).trans rfl; have hcz13_1 : w12.cell? ⟨gb227, 1, none⟩ = some (.int .i64 t218) := (blk_cell BK227.out 1).trans rfl; have hcz13_2 : w12.cell? ⟨gb227, 2, none⟩ = some (.int .i64 t219) := (blk_cell BK227.out 2).trans rfl; have hcz13_3 : w12.cell? ⟨gb227, 3, none⟩ = some (.string t220) := (blk_cell BK227.out 3).trans rfl; have hcz13_4 : w12.cell? ⟨gb227, 4, none⟩ = some (.string t221) := (blk_cell BK227.out 4).trans rfl; have hcz13_5 : w12.cell? ⟨gb227, 5, none⟩ = some (.slice Ao11 t222.length co11) := (blk_cell BK227.out 5).trans rfl; have hfz13_0 := blk_frozen BK227.out 0; have hfz13_1 := blk_frozen BK227.out 1; have hfz13_2 := blk_frozen BK227.out 2; have hfz13_3 := blk_frozen BK227.out 3; have hfz13_4 := blk_frozen BK227.out 4; have hfz13_5 := blk_frozen BK227.out 5) | ((with_reducible refine gate_builtin (b := .append) (xs := #[.tmp 21, .tmp 23]) rfl ?_); at_builtin; refine Kd.S_append k42 (w0 := w) w.heap.size rfl (.tmp 21) (.tmp 23) 22 42 (.agg #[(.int .i64 0), (.int .i64 0), (.int .i64 0), (.string ⟨#[]⟩), (.string ⟨#[]⟩), (.slice none 0 0)]) 80 rfl Try.underlying22 info42 rfl (by decide) (by omega) u2 x2_1 (⟨t217, t218, t219, t220, t221, t222⟩ : S42) [.int .i64 t217, .int .i64 t218, .int .i64 t219, .string t220, .string t221, .slice Ao11 t222.length co11] (fun k_ => k_ ≠ gb227) (fun k_ => some k_ = (.slice Ao11 t222.length co11 : Value).ownBlock) rfl rfl ?aP (fun k_ hk_ => ((Kd.R_mono (ok' := fun k_ => ((fun k_ => k_ ≠ gb227)) k_ ∧ some k_ ≠ (u2 : Value).ownBlock) (Kd.R_types (Kd.R_apart' (HO224.out) (Kd.S_typed HO_2.out) (by decide)) BK227.out (by decide)) (fun k_ hk => ⟨hk.2, hk.1.2⟩))).1 k_ hk_.symm) ?aF ?aO ?aB ?aS ?aL ?_; (case aP => exact k42_mkM _ _ _ (⟨t217, t218, t219, t220, t221, t222⟩ : S42) (Kd.R_mono (Kd.R_tight rfl (Kd.R_mono (ok' := fun k_ => ((fun k_ => k_ ≠ gb227)) k_ ∧ some k_ ≠ (u2 : Value).ownBlock) (Kd.R_types (Kd.R_apart' (HO224.out) (Kd.S_typed HO_2.out) (by decide)) BK227.out (by decide)) (fun k_ hk => ⟨hk.2, hk.1.2⟩))) (fun _ h_ => h_))); (case aB => exact (by repeat (first | (with_reducible first | exact HB.out | apply below_alloc | apply pw_below_drewN | apply below_drew1 | refine below_set ?_ GE227.out) | exact HB.out))); (case aF => exact (fun k_ hk => Kd.freshB (g := gb227) (o := .cells #[.int .i64 t217, .int .i64 t218, .int .i64 t219, .string t220, .string t221, .slice Ao11 t222.length co11] 42 (0, 0)) (by (with_reducible repeat (first | refine blk_drewN ?_ _ | refine blk_drew ?_ | refine blk_alloc ?_ _)); exact BK227.out) k_ hk)); (case aO => exact (by (with_reducible repeat (first | apply Kd.S_alloc | apply Kd.S_drewN | apply Kd.S_drew)); exact Kd.S_mono HO_2.out (fun k_ hk => ⟨hk.2, fun e_ => hk.1 e_⟩))); (case aS => exact (below_size (by repeat (first | (with_reducible first | exact HB.out | apply below_alloc | apply pw_below_drewN | apply below_drew1 | refine below_set ?_ GE227.out) | exact HB.out)))); (case aL => have := LMc7.out; omega); intro v229 w14 ho hb hg hat; rw [← Ny228.out] at ho; have n0_ := Aside0.mk (blk_grown (g := gb227) (o := .cells #[.int .i64 t217, .int .i64 t218, .int .i64 t219, .string t220, .string t221, .slice Ao11 t222.length co11] 42 (0, 0)) (by (with_reducible repeat (first | refine blk_drewN ?_ _ | refine blk_drew ?_ | refine blk_alloc ?_ _)); exact BK227.out) hg (Kd.S_away HO_2.out (fun _ hk => hk.2))); have n1_ := Aside0.mk (hb); have n2_ := Aside0.mk (ho); clear BK227; clear HB; clear HO_2; clear HO224; have BK227 := n0_; have HB := n1_; have HO230 := n2_; clear n0_ n1_ n2_; clear ho hb hg hat))
                go_roundg k1
                case measure => have := HK1.out; omega
                case rel => exact ⟨(y228), (wrap64 ((a0.size : Int) - (t225.size : Int))), (by first | rfl | (simp; done) | (simp [*]; done)), H', ⟨by have := HK1.out; omega⟩, ⟨by (with_reducible repeat (first | apply Kd.S_alloc | apply Kd.S_drewN | apply Kd.S_drew)); exact Kd.S_mono HO230.out (fun _ hk => trivial)⟩, ⟨by repeat (first | (with_reducible first | exact HB.out | apply below_alloc | apply pw_below_drewN | apply below_drew1 | refine below_set ?_ GE227.out) | exact HB.out)⟩⟩
              · rw [if_neg c7] at H
                exact absurd H (by simp)
            · rw [if_neg c6] at H
              have c6b0 : (t226 == 0) = false := beq_eq_false_iff_ne.mpr c6
              have c6b1 : (t226 != 0) = true := bne_iff_ne.mpr c6
              simp only [Option.some.injEq, Prod.mk.injEq] at H
              obtain ⟨rfl, rfl⟩ := H
              go_wp2_with (first | ((with_reducible refine gate_callee (f := 31) rfl ?_); refine goesL_ (some 15) rfl rfl Try.func31 (by kernel_rfl) rfl #[.string (a0.extract (x3_1 : Int).toNat a0.size)] rfl (by (try simp only [List.map_toArray, List.map_cons, List.map_nil]); first | done | rfl | (simp only [List.length_drop, List.length_take]; rfl)) ?_; (with_reducible refine (record_Take.calls (a0.extract (x3_1 : Int).toNat a0.size) t217 t218 t219 t220 t221 t222 t225 t226 _ A5.out).mono ?_); rintro e w15 ⟨v223, rfl, ho0, hb⟩; refine ⟨_, rfl, ?_⟩; have n0_ := Aside0.mk (Kd.S_elder' (by (with_reducible repeat (first | apply Kd.S_alloc | apply Kd.S_drewN | apply Kd.S_drew)); exact HO_2.out) (Kd.R_base ho0) hb); have n1_ := Aside0.mk (Kd.R_lower ho0 (below_size (by repeat (first | (with_reducible first | exact HB.out | apply below_alloc | apply pw_below_drewN | apply below_drew1) | exact HB.out)))); have n2_ := Aside0.mk (below_step (by repeat (first | (with_reducible first | exact HB.out | apply below_alloc | apply pw_below_drewN | apply below_drew1) | exact HB.out)) hb); clear HO_2; clear HB; have HO_2 := n0_; have HO224 := n1_; have HB := n2_; clear n0_ n1_ n2_; (try clear hb); (try clear hb2); (try clear hk); (try clear hi); (try clear ho0)) | ((with_reducible refine gate_dst (N := 4) rfl ?_); refine box_event ?hg (N := 4) ?hd (cs := #[.int .i64 0, .int .i64 0, .int .i64 0, .string (⟨#[]⟩ : ByteArray), .string (⟨#[]⟩ : ByteArray), .slice none 0 0]) (t := 42) ?hr ?_; (case hd => rfl); (case hg => rfl); (case hr => first | (go_simp; done) | (go_simp; rfl)); intro gb227 hg w16 hbox hb; have n0_ := Aside0.mk (Kd.S_below (Kd.S_elderB (by (with_reducible repeat (first | apply Kd.S_alloc | apply Kd.S_drewN | apply Kd.S_drew)); exact HO_2.out) gb227 (Nat.le_of_eq hg.symm)) hb); have n1_ := Aside0.mk (Kd.R_below (by (with_reducible repeat (first | apply Kd.R_alloc | apply Kd.R_drewN | apply Kd.R_drew)); exact HO224.out) hb); have n2_ := Aside0.mk (below_step (by repeat (first | (with_reducible first | exact HB.out | apply below_alloc | apply pw_below_drewN | apply below_drew1) | exact HB.out)) hb); have n3_ := Aside0.mk (hbox); have n4_ := Aside0.mk ((by rw [hg]; exact (below_size (by repeat (first | (with_reducible first | exact HB.out | apply below_alloc | apply pw_below_drewN | apply below_drew1) | exact HB.out))) : w.heap.size ≤ gb227)); have n5_ := Aside0.mk ((by rw [hg]; exact (below_size (by repeat (first | (with_reducible first | exact HB.out | apply below_alloc | apply pw_below_drewN | apply below_drew1) | exact HB.out))) : w.heap.size ≤ gb227)); clear HO_2; clear HO224; clear HB; have HO_2 := n0_; have HO224 := n1_; have HB := n2_; have BK227 := n3_; have GW227 := n4_; have GE227 := n5_; clear n0_ n1_ n2_ n3_ n4_ n5_; clear hb hbox hg; have hcz17_0 : w16.cell? ⟨gb227, 0, none⟩ = some (.int .i64 0) := (blk_cell BK227.out 0).trans rfl; have hcz17_1 : w16.cell? ⟨gb227, 1, none⟩ = some (.int .i64 0) := (blk_cell BK227.out 1).trans rfl; have hcz17_2 : w16.cell? ⟨gb227, 2, none⟩ = some (.int .i64 0) := (blk_cell BK227.out 2).trans rfl; have hcz17_3 : w16.cell? ⟨gb227, 3, none⟩ = some (.string (⟨#[]⟩ : ByteArray)) := (blk_cell BK227.out 3).trans rfl; have hcz17_4 : w16.cell? ⟨gb227, 4, none⟩ = some (.string (⟨#[]⟩ : ByteArray)) := (blk_cell BK227.out 4).trans rfl; have hcz17_5 : w16.cell? ⟨gb227, 5, none⟩ = some (.slice none 0 0) := (blk_cell BK227.out 5).trans rfl; have hfz17_0 := blk_frozen BK227.out 0; have hfz17_1 := blk_frozen BK227.out 1; have hfz17_2 := blk_frozen BK227.out 2; have hfz17_3 := blk_frozen BK227.out 3; have hfz17_4 := blk_frozen BK227.out 4; have hfz17_5 := blk_frozen BK227.out 5; obtain ⟨Ao18, co18, eo18⟩ := Kd.R_slice HO224.out; subst eo18))
              go_ret2
              exact ⟨_, by first | rfl | (simp [errW_none, errW_some] <;> rfl) | (simp [*, errW_none, errW_some] <;> rfl), by (with_reducible repeat (first | apply Kd.S_alloc | apply Kd.S_drewN | apply Kd.S_drew)); exact Kd.S_mono (Kd.S_far (p := ⟨gb227, 5, none⟩) (Kd.S_far (p := ⟨gb227, 4, none⟩) (Kd.S_far (p := ⟨gb227, 3, none⟩) (Kd.S_far (p := ⟨gb227, 2, none⟩) (Kd.S_far (p := ⟨gb227, 1, none⟩) (Kd.S_far (p := ⟨gb227, 0, none⟩) (Kd.S_mono HO_2.out (fun k_ hk => (⟨hk, hk.2⟩ : _ ∧ k_ ≠ gb227))) (fun _ hk => hk.2) (.int .i64 t217)) (fun _ hk => hk.2) (.int .i64 t218)) (fun _ hk => hk.2) (.int .i64 t219)) (fun _ hk => hk.2) (.string t220)) (fun _ hk => hk.2) (.string t221)) (fun _ hk => hk.2) (.slice Ao18 t222.length co18)) (fun _ hk => trivial), by repeat (first | (with_reducible first | exact HB.out | apply below_alloc | apply pw_below_drewN | apply below_drew1 | refine below_set ?_ GE227.out) | exact HB.out)⟩
          · rw [if_neg c4] at H
            exact absurd H (by simp)
        · rw [if_neg c3] at H
          exact absurd H (by simp)
      · rw [if_neg c2] at H
        have c2b0 : decide (x3_1 < (a0.size : Int)) = false := decide_eq_false c2
        clear c2
        simp only [Option.some.injEq, Prod.mk.injEq] at H
        obtain ⟨rfl, rfl⟩ := H
        go_wp2
        go_ret2
        exact ⟨_, by first | rfl | (simp [errW_none, errW_some] <;> rfl) | (simp [*, errW_none, errW_some] <;> rfl), by (with_reducible repeat (first | apply Kd.S_alloc | apply Kd.S_drewN | apply Kd.S_drew)); exact HO_2.out, by repeat (first | (with_reducible first | exact HB.out | apply below_alloc | apply pw_below_drewN | apply below_drew1) | exact HB.out)⟩
end Go.Proofs.Ytmhjhhlgdenlkaa.P
set_option linter.unusedVariables false
set_option linter.unusedSimpArgs false
namespace Go.Proofs.Ytmhjhhlgdenlkaa.P
open Go.RowKit Go.Proofs.YtmhjhhlgdenlkaaW.PrintWords
theorem rdN_eq (st : RS) : rdN st = if st.2 = true ∨ st.1.size < 4 then (0, st.1, true) else (if rd4 st.1 ≥ 2147483648 then rd4 st.1 - 4294967296 else rd4 st.1, st.1.extract 4 st.1.size, false) := by
  obtain ⟨s, b⟩ := st
  cases b with
  | true =>
    have e : rdB (s, true) 4 = (⟨#[]⟩, s, true) := rfl
    unfold rdN
    rw [e, if_pos rfl, if_pos (.inl rfl)]
  | false =>
    have e : rdB (s, false) 4 = if (4 : Int) > (s.size : Int) then (⟨#[]⟩, s, true) else (s.extract 0 4, s.extract 4 s.size, false) := rfl
    by_cases h : s.size < 4
    · rw [if_pos (by omega)] at e
      unfold rdN
      rw [e, if_pos rfl, if_pos (.inr h)]
    · rw [if_neg (by omega)] at e
      unfold rdN
      rw [e, if_neg (by simp), if_neg (by simpa using h)]
      have hx : (s.extract 0 4).size = 4 := by rw [ByteArray.size_extract]; omega
      have hr := rd4_range s
      have e1 : num4 (s.extract 0 4) = rd4 s := by
        rw [num4_eq _ (by omega)]
        have e2 : s = s.extract 0 4 ++ s.extract 4 s.size := by
          rw [ByteArray.extract_append_extract]; simp
        have b : ∀ i : Int, 0 ≤ i → i < 4 → bt (s.extract 0 4) i = bt s i := by
          intro i h0 h1
          conv => rhs; rw [e2]
          rw [bt_append_left _ _ i h0 (by rw [ByteArray.size_extract]; omega)]
        unfold rd4
        rw [b 0 (by omega) (by omega), b 1 (by omega) (by omega), b 2 (by omega) (by omega), b 3 (by omega) (by omega)]
      show (wrap64 (wrap32 (num4 (s.extract 0 4))), (s.extract 4 s.size, false)) = _
      rw [e1]
      show _ = ((if rd4 s ≥ 2147483648 then rd4 s - 4294967296 else rd4 s), (s.extract 4 s.size, false))
      congr 1
      unfold wrap64 wrap32
      split <;> omega
theorem ext_inj {a b c d : ByteArray} (h : a ++ b = c ++ d) (hs : a.size = c.size) : a = c ∧ b = d := by
  have h1 : a.data ++ b.data = c.data ++ d.data := by
    have := congrArg ByteArray.data h
    simpa [ByteArray.data_append] using this
  have h2 := Array.append_inj h1 hs
  exact ⟨ByteArray.ext h2.1, ByteArray.ext h2.2⟩
theorem frame_iff (s : ByteArray) (m : Nat) (hm : rd4 s = (m : Int)) (h4 : m ≤ 4000) (h8 : 8 + m ≤ s.size) :
    frame (s.extract 8 (8 + m)) = s.extract 0 (8 + m) ↔ rd4 (s.extract 4 s.size) = chk (s.extract 0 4 ++ s.extract 8 (8 + m)) := by
  have ht : (s.extract 8 (8 + m)).size = m := by rw [ByteArray.size_extract]; omega
  have e1 : be4 ((s.extract 8 (8 + m)).size : Int) = s.extract 0 4 := by rw [ht, ← hm, be4_rd4 s (by omega)]
  have e2 : s.extract 0 (8 + m) = s.extract 0 4 ++ s.extract 4 8 ++ s.extract 8 (8 + m) := by
    rw [ByteArray.extract_append_extract, show min 0 4 = 0 from rfl, show max 4 8 = 8 from rfl, ByteArray.extract_append_extract]
    congr 1 <;> omega
  have hc := chk_range (s.extract 0 4 ++ s.extract 8 (8 + m))
  have e3 : rd4 (s.extract 4 s.size) = rd4 (s.extract 4 8) := by
    have e : s.extract 4 s.size = s.extract 4 8 ++ s.extract 8 s.size := by
      rw [ByteArray.extract_append_extract]
      congr 1 <;> omega
    have b : ∀ i : Int, 0 ≤ i → i < 4 → bt (s.extract 4 s.size) i = bt (s.extract 4 8) i := by
      intro i h0 h1
      rw [e, bt_append_left _ _ i h0 (by rw [ByteArray.size_extract]; omega)]
    unfold rd4
    rw [b 0 (by omega) (by omega), b 1 (by omega) (by omega), b 2 (by omega) (by omega), b 3 (by omega) (by omega)]
  have hz : (s.extract 4 8).size = 4 := by rw [ByteArray.size_extract]; omega
  unfold frame
  rw [e1, e2, e3]
  constructor
  · intro h
    have h1 := (ext_inj h (by rw [ByteArray.size_append, ByteArray.size_append, be4_size, hz])).1
    have h2 := (ext_inj h1 rfl).2
    rw [← h2]
    have := bt_be4 (chk (s.extract 0 4 ++ s.extract 8 (8 + m)))
    unfold rd4
    rw [this.1, this.2.1, this.2.2.1, this.2.2.2]
    omega
  · intro h
    have hx : (s.extract 4 8).extract 0 4 = s.extract 4 8 := by
      have := ByteArray.extract_zero_size (b := s.extract 4 8)
      rwa [hz] at this
    rw [← h, be4_rd4 _ (by omega), hx]
theorem be4_mod (a b : Int) (h : a % 4294967296 = b % 4294967296) : be4 a = be4 b := by
  unfold be4
  rw [show (a / 16777216) % 256 = (b / 16777216) % 256 from by omega, show (a / 65536) % 256 = (b / 65536) % 256 from by omega, show (a / 256) % 256 = (b / 256) % 256 from by omega, show a % 256 = b % 256 from by omega]
theorem be4_inj (a b : Int) (h : be4 a = be4 b) : a % 4294967296 = b % 4294967296 := by
  have ha := bt_be4 a
  have hb := bt_be4 b
  rw [h] at ha
  omega
theorem ext_split (s : ByteArray) (m : Nat) (hm : m ≤ s.size) : s = s.extract 0 m ++ s.extract m s.size := by
  rw [ByteArray.extract_append_extract]
  simp
end Go.Proofs.Ytmhjhhlgdenlkaa.P
set_option linter.unusedVariables false
set_option linter.unusedSimpArgs false
namespace Go.Proofs.Ytmhjhhlgdenlkaa.P
open Go.RowKit Go.Proofs.YtmhjhhlgdenlkaaW.PrintWords
def tb (L : List UInt8) : ByteArray := ⟨L.toArray⟩
theorem tb_append (L M : List UInt8) : tb L ++ tb M = tb (L ++ M) := by
  apply ByteArray.ext
  rw [ByteArray.data_append]
  simp [tb]
theorem tb_of (s : ByteArray) : s = tb s.data.toList := by
  apply ByteArray.ext
  simp [tb]
theorem be4_tb (n : Int) : be4 n = tb (Writer.be32 n) := be4_eq n
end Go.Proofs.Ytmhjhhlgdenlkaa.P
set_option linter.unusedVariables false
set_option linter.unusedSimpArgs false
namespace Go.Proofs.Ytmhjhhlgdenlkaa.P
open Go.RowKit Go.Proofs.YtmhjhhlgdenlkaaW.PrintWords
theorem ext_left (a b : ByteArray) : (a ++ b).extract 0 a.size = a := by
  apply ByteArray.ext
  simp
theorem ext_right (a b : ByteArray) (n : Nat) (h : n = a.size) : (a ++ b).extract n (a ++ b).size = b := by
  subst h
  have h := ext_split (a ++ b) a.size (by rw [ByteArray.size_append]; omega)
  rw [ext_left] at h
  exact ((ext_inj h rfl).2).symm
theorem rdN_be4 (n : Int) (h0 : -2147483648 ≤ n) (h1 : n < 2147483648) (s : ByteArray) : rdN (be4 n ++ s, false) = (n, (s, false)) := by
  have hz : (be4 n ++ s).size = 4 + s.size := by rw [ByteArray.size_append, be4_size]
  rw [rdN_eq, if_neg (by simp only [Bool.false_eq_true, false_or]; rw [hz]; omega)]
  have e : be4 n = be4 (n % 4294967296) := be4_mod _ _ (by omega)
  have er : rd4 (be4 n ++ s) = n % 4294967296 := by rw [e]; exact rd4_be4 _ (by omega) (by omega) s
  simp only
  rw [er, ext_right _ _ 4 (be4_size n).symm]
  congr 1
  split <;> omega
theorem rdT_be4 (x : ByteArray) (hx : x.size < 2147483648) (s : ByteArray) : rdT (be4 x.size ++ (x ++ s), false) = (x, (s, false)) := by
  unfold rdT
  rw [rdN_be4 _ (by omega) (by omega)]
  simp only
  unfold rdB
  rw [if_neg (by simp), if_neg (by omega), if_neg (by rw [ByteArray.size_append]; omega)]
  rw [Int.toNat_natCast, ext_left, ext_right _ _ _ rfl]
theorem text8_tb (x s : ByteArray) : tb (Writer.text8 x) ++ s = be4 x.size ++ (x ++ s) := by
  have e : be4 x.size ++ tb x.data.toList = tb (Writer.text8 x) := by
    rw [be4_tb, tb_append]
    rfl
  rw [← e, ← tb_of, ByteArray.append_assoc]
theorem rdStep_step8 (x : S80) (s : ByteArray) (h0 : x.f0.size < 2147483648) (h2 : x.f2.size < 2147483648) (h3 : x.f3.size < 2147483648) (h4 : x.f4.size < 2147483648) (h1 : -2147483648 ≤ x.f1 ∧ x.f1 < 2147483648) (h5 : -2147483648 ≤ x.f5 ∧ x.f5 < 2147483648) :
    rdStep (tb (step8 x) ++ s, false) = (x, (s, false)) := by
  have e : tb (step8 x) ++ s = be4 x.f0.size ++ (x.f0 ++ (be4 x.f1 ++ (be4 x.f2.size ++ (x.f2 ++ (be4 x.f3.size ++ (x.f3 ++ (be4 x.f4.size ++ (x.f4 ++ (be4 x.f5 ++ s))))))))) := by
    unfold step8
    rw [← tb_append, ← tb_append, ← tb_append, ← tb_append, ← tb_append, ← be4_tb, ← be4_tb, ByteArray.append_assoc, text8_tb, ByteArray.append_assoc, ByteArray.append_assoc, text8_tb, ByteArray.append_assoc, text8_tb, ByteArray.append_assoc, text8_tb]
  rw [e]
  unfold rdStep
  rw [rdT_be4 _ h0]
  simp only
  rw [rdN_be4 _ h1.1 h1.2]
  simp only
  rw [rdT_be4 _ h2]
  simp only
  rw [rdT_be4 _ h3]
  simp only
  rw [rdT_be4 _ h4]
  simp only
  rw [rdN_be4 _ h5.1 h5.2]
def smallStep (x : S80) : Prop := x.f0.size < 2147483648 ∧ x.f2.size < 2147483648 ∧ x.f3.size < 2147483648 ∧ x.f4.size < 2147483648 ∧ (-2147483648 ≤ x.f1 ∧ x.f1 < 2147483648) ∧ (-2147483648 ≤ x.f5 ∧ x.f5 < 2147483648)
theorem rdSteps_flat : ∀ (l : List S80) (s : ByteArray), (∀ x : S80, x ∈ l → smallStep x) → rdSteps l.length (tb (l.flatMap step8) ++ s, false) = (l, (s, false))
  | [], s, _ => by
    have e : tb (([] : List S80).flatMap step8) ++ s = s := by
      apply ByteArray.ext
      simp [tb, ByteArray.data_append]
    rw [e]
    rfl
  | x :: l, s, h => by
    obtain ⟨a, b, c, d, e1, e2⟩ := h x (by simp)
    have e : tb ((x :: l).flatMap step8) ++ s = tb (step8 x) ++ (tb (l.flatMap step8) ++ s) := by rw [List.flatMap_cons, ← tb_append, ByteArray.append_assoc]
    rw [e, List.length_cons]
    unfold rdSteps
    rw [rdStep_step8 x _ a b c d e1 e2]
    simp only
    rw [rdSteps_flat l s (fun y hy => h y (by simp [hy]))]
theorem okSteps_small (l : List S80) (h : okSteps l = true) : l.length ≤ 5 ∧ ∀ x : S80, x ∈ l → smallStep x := by
  unfold okSteps at h
  simp only [Bool.and_eq_true, decide_eq_true_eq] at h
  refine ⟨h.1.2, fun x hx => ?_⟩
  obtain ⟨i, hi, rfl⟩ := List.getElem_of_mem hx
  have hu := h.2
  unfold okUpto at hu
  rw [List.all_eq_true] at hu
  have ha := hu i (by simpa using hi)
  have hg : rd_T80 l (i : Int) = l[i] := by simp [rd_T80, List.getD_eq_getElem?_getD, List.getElem?_eq_getElem hi]
  unfold okAt okRest at ha
  rw [hg] at ha
  simp only [Bool.and_eq_true, decide_eq_true_eq] at ha
  obtain ⟨⟨hn, _⟩, ⟨⟨h1, hp⟩, hs⟩, h5⟩ := ha
  unfold isName at hn
  unfold isShort at hs
  simp only [Bool.and_eq_true, decide_eq_true_eq] at hn hs
  have sz : ∀ s : ByteArray, s.size = s.toList.length := by
    intro s
    rw [Lib.toList_data]
    rfl
  have lA : ∀ n, (opA n).length ≤ 7 := by intro n; unfold opA; split <;> (try split) <;> (try split) <;> simp
  have lB : ∀ n, (opB n).length ≤ 7 := by intro n; unfold opB; split <;> (try split) <;> (try split) <;> simp
  have h23 : (l[i]).f2.size ≤ 7 ∧ (l[i]).f3.size ≤ 7 := by
    unfold isPair at hp
    simp only [Bool.or_eq_true, decide_eq_true_eq] at hp
    rw [sz, sz]
    rcases hp with ⟨a, b⟩ | ⟨a, b⟩
    · rw [a, b]; exact ⟨lA _, lB _⟩
    · rw [a, b]; exact ⟨lB _, lA _⟩
  exact ⟨by omega, by omega, by omega, by omega, by omega, by omega⟩
theorem toList_nil {s : ByteArray} (h : s.toList = []) : s = ⟨#[]⟩ := by
  rw [Lib.toList_data] at h
  apply ByteArray.ext
  have : s.data = #[] := by
    have := congrArg List.toArray h
    simpa using this
  exact this
theorem rdRec_spell (r : S42) (h : okR r = true) : rdRec (spellR r) = (r, (⟨#[]⟩, false)) := by
  have hok := h
  unfold okR at h
  simp only [Bool.and_eq_true, decide_eq_true_eq] at h
  obtain ⟨hid, h⟩ := h
  have nil : ∀ s : ByteArray, s ++ ⟨#[]⟩ = s := by intro s; apply ByteArray.ext; simp
  obtain ⟨f0, f1, f2, f3, f4, f5⟩ := r
  simp only at h hid
  by_cases h1 : f0 = 1
  · rw [if_pos h1] at h
    simp only [Bool.and_eq_true, decide_eq_true_eq] at h
    obtain ⟨⟨⟨⟨hn, hk⟩, hs⟩, hb⟩, hst⟩ := h
    have hsm := okSteps_small f5 hst
    unfold isShort at hs
    simp only [Bool.and_eq_true, decide_eq_true_eq] at hs
    have es : spellR ⟨f0, f1, f2, f3, f4, f5⟩ = be4 f0 ++ (be4 f1 ++ (be4 f2 ++ (be4 0 ++ (be4 f3.size ++ (f3 ++ (be4 f4.size ++ (f4 ++ (be4 f5.length ++ (tb (f5.flatMap step8) ++ ⟨#[]⟩))))))))) := by
      rw [nil]
      show tb (spell8 f0 f1 f2 f3 f4 f5) = _
      rw [← text8_tb, ← text8_tb, be4_tb, be4_tb, be4_tb, be4_tb, be4_tb, tb_append, tb_append, tb_append, tb_append, tb_append, tb_append, tb_append]
      unfold spell8
      rw [if_pos h1]
      first | done | (congr 1; done) | (congr 1; simp)
    rw [es]
    unfold rdRec
    rw [rdN_be4 _ (by omega) (by omega)]
    simp only
    rw [rdN_be4 _ (by omega) (by omega)]
    simp only
    rw [rdN_be4 _ (by omega) (by omega)]
    simp only
    rw [rdN_be4 _ (by omega) (by omega)]
    simp only
    rw [if_pos h1]
    unfold rdBegin
    rw [rdT_be4 _ (by omega)]
    simp only
    rw [rdT_be4 _ (by omega)]
    simp only
    rw [rdN_be4 _ (by omega) (by omega)]
    simp only
    rw [show (min (f5.length : Int) 5).toNat = f5.length from by omega, rdSteps_flat f5 _ hsm.2]
  · rw [if_neg h1] at h
    simp only [Bool.and_eq_true, decide_eq_true_eq, beq_iff_eq] at h
    obtain ⟨⟨⟨hk, hb⟩, hl⟩, hkind⟩ := h
    have hkk : f0 = 2 ∨ f0 = 3 ∨ f0 = 4 ∨ f0 = 5 ∨ f0 = 6 := by
      by_cases a : f0 = 2 ∨ f0 = 3 ∨ f0 = 5
      · omega
      · rw [if_neg a] at hkind
        by_cases b : f0 = 4
        · omega
        · rw [if_neg b] at hkind
          by_cases c : f0 = 6
          · omega
          · rw [if_neg c] at hkind; simp at hkind
    have hn : 0 ≤ f2 ∧ f2 < 5 := by
      by_cases a : f0 = 2 ∨ f0 = 3 ∨ f0 = 5
      · rw [if_pos a] at hkind; exact of_decide_eq_true hkind
      · rw [if_neg a] at hkind
        by_cases b : f0 = 4
        · rw [if_pos b] at hkind; have := of_decide_eq_true hkind; omega
        · rw [if_neg b] at hkind
          by_cases c : f0 = 6
          · rw [if_pos c] at hkind; have := of_decide_eq_true hkind; omega
          · rw [if_neg c] at hkind; simp at hkind
    have e3 := toList_nil hk
    have e4 := toList_nil hb
    have e5 : f5 = [] := List.length_eq_zero_iff.1 hl
    subst e3
    subst e4
    subst e5
    have es : spellR ⟨f0, f1, f2, ⟨#[]⟩, ⟨#[]⟩, []⟩ = be4 f0 ++ (be4 f1 ++ (be4 f2 ++ (be4 0 ++ ⟨#[]⟩))) := by
      rw [nil]
      show tb (spell8 f0 f1 f2 ⟨#[]⟩ ⟨#[]⟩ []) = _
      rw [be4_tb, be4_tb, be4_tb, be4_tb, tb_append, tb_append, tb_append]
      unfold spell8
      rw [if_neg h1]
      first | done | (congr 1; done) | (congr 1; simp)
    rw [es]
    unfold rdRec
    rw [rdN_be4 _ (by omega) (by omega)]
    simp only
    rw [rdN_be4 _ (by omega) (by omega)]
    simp only
    rw [rdN_be4 _ (by omega) (by omega)]
    simp only
    rw [rdN_be4 _ (by omega) (by omega)]
    simp only
    rw [if_neg h1]
theorem okT_spell (r : S42) (h : okR r = true) : okT (spellR r) = true := by
  unfold okT
  rw [rdRec_spell r h]
  simp [h]
end Go.Proofs.Ytmhjhhlgdenlkaa.P
set_option linter.unusedVariables false
set_option linter.unusedSimpArgs false
namespace Go.Proofs.Ytmhjhhlgdenlkaa.P
open Go.RowKit Go.Proofs.YtmhjhhlgdenlkaaW.PrintWords
theorem unf_frame (t y : ByteArray) (h : t.size ≤ 4000) : unf (frame t ++ y) = some (t, y) := by
  have hc := chk_range (be4 t.size ++ t)
  have ef : frame t ++ y = be4 t.size ++ (be4 (chk (be4 t.size ++ t)) ++ (t ++ y)) := by
    unfold frame
    rw [ByteArray.append_assoc, ByteArray.append_assoc]
  have hz : (frame t ++ y).size = 8 + t.size + y.size := by rw [ByteArray.size_append, frame_size]
  have hr : rd4 (frame t ++ y) = t.size := by rw [ef]; exact rd4_be4 _ (by omega) (by omega) _
  have e04 : (frame t ++ y).extract 0 4 = be4 t.size := by
    rw [ef]
    have := ext_left (be4 (t.size : Int)) (be4 (chk (be4 t.size ++ t)) ++ (t ++ y))
    rwa [be4_size] at this
  have e4 : (frame t ++ y).extract 4 (frame t ++ y).size = be4 (chk (be4 t.size ++ t)) ++ (t ++ y) := by
    rw [ef]
    exact ext_right _ _ 4 (be4_size _).symm
  have e8 : (frame t ++ y).extract 8 (8 + t.size) = t ∧ (frame t ++ y).extract (8 + t.size) (frame t ++ y).size = y := by
    have ea : (frame t ++ y) = (be4 t.size ++ be4 (chk (be4 t.size ++ t))) ++ (t ++ y) := by rw [ef, ByteArray.append_assoc]
    have hs8 : (be4 (t.size : Int) ++ be4 (chk (be4 t.size ++ t))).size = 8 := by rw [ByteArray.size_append, be4_size, be4_size]
    have eb := ext_right (frame t) y (8 + t.size) (frame_size t).symm
    refine ⟨?_, eb⟩
    have s1 := ext_split (frame t ++ y) 8 (by omega)
    have s2 : (frame t ++ y).extract 8 (frame t ++ y).size = (frame t ++ y).extract 8 (8 + t.size) ++ (frame t ++ y).extract (8 + t.size) (frame t ++ y).size := by
      rw [ByteArray.extract_append_extract]
      congr 1 <;> omega
    have e88 : (frame t ++ y).extract 8 (frame t ++ y).size = t ++ y := by
      conv => lhs; rw [ea]
      exact ext_right _ _ 8 hs8.symm
    rw [s2, eb] at e88
    exact (ext_inj e88 (by rw [ByteArray.size_extract]; omega)).1
  have c1 : ¬ (frame t ++ y).size < 8 := by omega
  have c2 : ¬ rd4 (frame t ++ y) > 4000 := by rw [hr]; omega
  have c3 : ¬ rd4 (frame t ++ y) > ((frame t ++ y).size : Int) - 8 := by rw [hr, hz]; omega
  have ct : (rd4 (frame t ++ y)).toNat = t.size := by rw [hr]; exact Int.toNat_natCast _
  have c4 : rd4 ((frame t ++ y).extract 4 (frame t ++ y).size) = chk ((frame t ++ y).extract 0 4 ++ (frame t ++ y).extract 8 (8 + (rd4 (frame t ++ y)).toNat)) := by
    rw [ct, e4, e04, e8.1]
    exact rd4_be4 _ hc.1 hc.2 _
  obtain ⟨F, hF⟩ : ∃ F, frame t ++ y = F := ⟨_, rfl⟩
  rw [hF] at c1 c2 c3 c4 ct e8 ⊢
  unfold unf
  rw [if_neg c1, if_neg c2, if_neg c3, if_pos c4, ct, e8.1, e8.2]
theorem takeR_frame (r : S42) (y : ByteArray) (h : okR r = true) (hz : (spellR r).size ≤ 4000) : takeR (frame (spellR r) ++ y) = some (r, y) := by
  have hk := okT_spell r h
  have hd := rdRec_spell r h
  have hu := unf_frame (spellR r) y hz
  obtain ⟨F, hF⟩ : ∃ F, frame (spellR r) ++ y = F := ⟨_, rfl⟩
  obtain ⟨t, ht⟩ : ∃ t, spellR r = t := ⟨_, rfl⟩
  rw [hF] at hu ⊢
  rw [ht] at hk hd hu
  unfold takeR
  rw [hu]
  show (if okT t = true then some ((rdRec t).1, y) else none) = some (r, y)
  rw [if_pos hk, hd]
end Go.Proofs.Ytmhjhhlgdenlkaa.P
namespace Go.Proofs.Ytmhjhhlgdenlkaa.P
open Go.RowKit Go.Proofs.YtmhjhhlgdenlkaaW.PrintWords Go.Proofs.YtmhjhhlgdenlkaaW.PrintLast Go.Proofs.YtmhjhhlgdenlkaaW.PrintMore
attribute [local go_sem] max2_int min2_int max_two min_two
set_option linter.unusedVariables false
set_option linter.unusedSimpArgs false
def record_Bytes.f (k : Nat) (a0_0 : Int) (a0_1 : Int) (a0_2 : Int) (a0_3 : ByteArray) (a0_4 : ByteArray) (l0_5 : List (S80)) : Option (ByteArray × Int) := (record_May.f k a0_0 a0_1 a0_2 a0_3 a0_4 l0_5).bind fun t177 => (if t177 = true then ((record_Frame.f k a0_0 a0_1 a0_2 a0_3 a0_4 l0_5).bind fun bt178 => (some (bt178.1, bt178.2))) else (some ((⟨#[]⟩ : ByteArray), 1)))
set_option maxHeartbeats 8000000 in
set_option maxRecDepth 100000 in
theorem record_Bytes.calls (k : Nat) (a0_0 : Int) (a0_1 : Int) (a0_2 : Int) (a0_3 : ByteArray) (a0_4 : ByteArray) (A0_5 : Option Addr) (c0_5 : Nat) (l0_5 : List (S80)) (r1 : ByteArray) (r2 : Int) (w : World) (hr0_5 : Kd.C k80 w A0_5 l0_5.length l0_5) (hc0_5 : l0_5.length ≤ c0_5) (h : record_Bytes.f k a0_0 a0_1 a0_2 a0_3 a0_4 l0_5 = some (r1, r2)) :
    Calls Try.prog 22 #[.agg #[.int .i64 a0_0, .int .i64 a0_1, .int .i64 a0_2, .string a0_3, .string a0_4, .slice A0_5 l0_5.length c0_5]] w fun e w' => e = .returned (.tuple #[.string r1, .int .i64 r2]) ∧ Below w.heap.size w w' := by
  have hu42 := Try.underlying42
  have HR0_5 := Aside0.mk hr0_5
  have HC0_5 := Aside0.mk hc0_5
  clear hr0_5 hc0_5
  have HB := Aside0.mk (Below.refl w.heap.size w)
  have H : ((record_May.f k a0_0 a0_1 a0_2 a0_3 a0_4 l0_5).bind fun t177 => (if t177 = true then ((record_Frame.f k a0_0 a0_1 a0_2 a0_3 a0_4 l0_5).bind fun bt178 => (some (bt178.1, bt178.2))) else (some ((⟨#[]⟩ : ByteArray), 1)))) = some (r1, r2) := h
  clear h
  replace H := Option.bind_eq_some_iff.mp H
  obtain ⟨t177, A20, H⟩ := H
  replace H : (if t177 = true then ((record_Frame.f k a0_0 a0_1 a0_2 a0_3 a0_4 l0_5).bind fun bt178 => (some (bt178.1, bt178.2))) else (some ((⟨#[]⟩ : ByteArray), 1))) = some (r1, r2) := H
  have A2 := Aside0.mk A20
  clear A20
  by_cases c3 : t177 = true
  · subst c3
    have H1 : ((record_Frame.f k a0_0 a0_1 a0_2 a0_3 a0_4 l0_5).bind fun bt178 => (some (bt178.1, bt178.2))) = some (r1, r2) := by rw [if_pos rfl] at H; exact H
    clear H
    have H := H1
    clear H1
    replace H := Option.bind_eq_some_iff.mp H
    obtain ⟨⟨t178, t179⟩, A40, H⟩ := H
    replace H : (some (t178, t179)) = some (r1, r2) := H
    have A4 := Aside0.mk A40
    clear A40
    simp only [Option.some.injEq, Prod.mk.injEq] at H
    obtain ⟨rfl, rfl⟩ := H
    go_enter Try.func22, Try.ntmps22
    go_wp2_with (first | ((with_reducible refine gate_dst (N := 1) rfl ?_); refine box_event ?hg (N := 1) ?hd (cs := #[.int .i64 a0_0, .int .i64 a0_1, .int .i64 a0_2, .string a0_3, .string a0_4, .slice A0_5 l0_5.length c0_5]) (t := 42) ?hr ?_; (case hd => rfl); (case hg => rfl); (case hr => first | (go_simp; done) | (go_simp; rfl)); intro gb176 hg w5 hbox hb; have n0_ := Aside0.mk (below_step (by repeat (first | (with_reducible first | exact HB.out | apply below_alloc | apply pw_below_drewN | apply below_drew1) | exact HB.out)) hb); have n1_ := Aside0.mk (hbox); have n2_ := Aside0.mk ((by rw [hg]; exact (below_size (by repeat (first | (with_reducible first | exact HB.out | apply below_alloc | apply pw_below_drewN | apply below_drew1) | exact HB.out))) : w.heap.size ≤ gb176)); have n3_ := Aside0.mk ((by rw [hg]; exact (below_size (by repeat (first | (with_reducible first | exact HB.out | apply below_alloc | apply pw_below_drewN | apply below_drew1) | exact HB.out))) : w.heap.size ≤ gb176)); clear HB; have HB := n0_; have BK176 := n1_; have GW176 := n2_; have GE176 := n3_; clear n0_ n1_ n2_ n3_; clear hb hbox hg; have hcz6_0 : w5.cell? ⟨gb176, 0, none⟩ = some (.int .i64 a0_0) := (blk_cell BK176.out 0).trans rfl; have hcz6_1 : w5.cell? ⟨gb176, 1, none⟩ = some (.int .i64 a0_1) := (blk_cell BK176.out 1).trans rfl; have hcz6_2 : w5.cell? ⟨gb176, 2, none⟩ = some (.int .i64 a0_2) := (blk_cell BK176.out 2).trans rfl; have hcz6_3 : w5.cell? ⟨gb176, 3, none⟩ = some (.string a0_3) := (blk_cell BK176.out 3).trans rfl; have hcz6_4 : w5.cell? ⟨gb176, 4, none⟩ = some (.string a0_4) := (blk_cell BK176.out 4).trans rfl; have hcz6_5 : w5.cell? ⟨gb176, 5, none⟩ = some (.slice A0_5 l0_5.length c0_5) := (blk_cell BK176.out 5).trans rfl; have hfz6_0 := blk_frozen BK176.out 0; have hfz6_1 := blk_frozen BK176.out 1; have hfz6_2 := blk_frozen BK176.out 2; have hfz6_3 := blk_frozen BK176.out 3; have hfz6_4 := blk_frozen BK176.out 4; have hfz6_5 := blk_frozen BK176.out 5) | ((with_reducible refine gate_callee (f := 35) rfl ?_); refine goesL_ (some 5) rfl rfl Try.func35 (by kernel_rfl) rfl #[.agg #[.int .i64 a0_0, .int .i64 a0_1, .int .i64 a0_2, .string a0_3, .string a0_4, .slice A0_5 l0_5.length c0_5]] rfl (by (try simp only [List.map_toArray, List.map_cons, List.map_nil]); first | done | rfl | (simp only [List.length_drop, List.length_take]; rfl)) ?_; (with_reducible refine (record_May.calls k a0_0 a0_1 a0_2 a0_3 a0_4 _ _ l0_5 true _ ?side1 ?side2 A2.out).mono ?_); (case side1 => repeat (first | exact (Kd.C_below HR0_5.out HB.out) | (with_reducible refine Kd.C_alloc ?_ _) | (with_reducible refine Kd.C_drewN ?_ _) | (with_reducible refine Kd.C_drew ?_))); (case side2 => exact HC0_5.out); rintro e w7 ⟨rfl, hb⟩; refine ⟨_, rfl, ?_⟩; have n0_ := Aside0.mk (blk_below (g := gb176) (o := .cells #[.int .i64 a0_0, .int .i64 a0_1, .int .i64 a0_2, .string a0_3, .string a0_4, .slice A0_5 l0_5.length c0_5] 42 (0, 0)) (by (with_reducible repeat (first | refine blk_drewN ?_ _ | refine blk_drew ?_ | refine blk_alloc ?_ _)); exact BK176.out) hb); have n1_ := Aside0.mk (below_step (by repeat (first | (with_reducible first | exact HB.out | apply below_alloc | apply pw_below_drewN | apply below_drew1 | refine below_set ?_ GE176.out) | exact HB.out)) hb); clear BK176; clear HB; have BK176 := n0_; have HB := n1_; clear n0_ n1_; (try clear hb); (try clear hb2); (try clear hk); (try clear hi); have hcz8_0 : w7.cell? ⟨gb176, 0, none⟩ = some (.int .i64 a0_0) := (blk_cell BK176.out 0).trans rfl; have hcz8_1 : w7.cell? ⟨gb176, 1, none⟩ = some (.int .i64 a0_1) := (blk_cell BK176.out 1).trans rfl; have hcz8_2 : w7.cell? ⟨gb176, 2, none⟩ = some (.int .i64 a0_2) := (blk_cell BK176.out 2).trans rfl; have hcz8_3 : w7.cell? ⟨gb176, 3, none⟩ = some (.string a0_3) := (blk_cell BK176.out 3).trans rfl; have hcz8_4 : w7.cell? ⟨gb176, 4, none⟩ = some (.string a0_4) := (blk_cell BK176.out 4).trans rfl; have hcz8_5 : w7.cell? ⟨gb176, 5, none⟩ = some (.slice A0_5 l0_5.length c0_5) := (blk_cell BK176.out 5).trans rfl; have hfz8_0 := blk_frozen BK176.out 0; have hfz8_1 := blk_frozen BK176.out 1; have hfz8_2 := blk_frozen BK176.out 2; have hfz8_3 := blk_frozen BK176.out 3; have hfz8_4 := blk_frozen BK176.out 4; have hfz8_5 := blk_frozen BK176.out 5) | ((with_reducible refine gate_callee (f := 36) rfl ?_); refine goesL_ (some 8) rfl rfl Try.func36 (by kernel_rfl) rfl #[.agg #[.int .i64 a0_0, .int .i64 a0_1, .int .i64 a0_2, .string a0_3, .string a0_4, .slice A0_5 l0_5.length c0_5]] rfl (by (try simp only [List.map_toArray, List.map_cons, List.map_nil]); first | done | rfl | (simp only [List.length_drop, List.length_take]; rfl)) ?_; (with_reducible refine (record_Frame.calls k a0_0 a0_1 a0_2 a0_3 a0_4 _ _ l0_5 t178 t179 _ ?side1 ?side2 A4.out).mono ?_); (case side1 => repeat (first | exact (Kd.C_below HR0_5.out HB.out) | (with_reducible refine Kd.C_alloc ?_ _) | (with_reducible refine Kd.C_drewN ?_ _) | (with_reducible refine Kd.C_drew ?_))); (case side2 => exact HC0_5.out); rintro e w9 ⟨rfl, hb⟩; refine ⟨_, rfl, ?_⟩; have n0_ := Aside0.mk (blk_below (g := gb176) (o := .cells #[.int .i64 a0_0, .int .i64 a0_1, .int .i64 a0_2, .string a0_3, .string a0_4, .slice A0_5 l0_5.length c0_5] 42 (0, 0)) (by (with_reducible repeat (first | refine blk_drewN ?_ _ | refine blk_drew ?_ | refine blk_alloc ?_ _)); exact BK176.out) hb); have n1_ := Aside0.mk (below_step (by repeat (first | (with_reducible first | exact HB.out | apply below_alloc | apply pw_below_drewN | apply below_drew1 | refine below_set ?_ GE176.out) | exact HB.out)) hb); clear BK176; clear HB; have BK176 := n0_; have HB := n1_; clear n0_ n1_; (try clear hb); (try clear hb2); (try clear hk); (try clear hi)))
    go_ret2
    exact ⟨by first | rfl | (simp [errW_none, errW_some] <;> rfl) | (simp [*, errW_none, errW_some] <;> rfl), by repeat (first | (with_reducible first | exact HB.out | apply below_alloc | apply pw_below_drewN | apply below_drew1 | refine below_set ?_ GE176.out) | exact HB.out)⟩
  · replace c3 := Bool.eq_false_iff.mpr c3
    subst c3
    have H1 : (some ((⟨#[]⟩ : ByteArray), 1)) = some (r1, r2) := by rw [if_neg (show ¬ (false = true) by decide)] at H; exact H
    clear H
    have H := H1
    clear H1
    simp only [Option.some.injEq, Prod.mk.injEq] at H
    obtain ⟨rfl, rfl⟩ := H
    go_enter Try.func22, Try.ntmps22
    go_wp2_with (first | ((with_reducible refine gate_dst (N := 1) rfl ?_); refine box_event ?hg (N := 1) ?hd (cs := #[.int .i64 a0_0, .int .i64 a0_1, .int .i64 a0_2, .string a0_3, .string a0_4, .slice A0_5 l0_5.length c0_5]) (t := 42) ?hr ?_; (case hd => rfl); (case hg => rfl); (case hr => first | (go_simp; done) | (go_simp; rfl)); intro gb176 hg w10 hbox hb; have n0_ := Aside0.mk (below_step (by repeat (first | (with_reducible first | exact HB.out | apply below_alloc | apply pw_below_drewN | apply below_drew1) | exact HB.out)) hb); have n1_ := Aside0.mk (hbox); have n2_ := Aside0.mk ((by rw [hg]; exact (below_size (by repeat (first | (with_reducible first | exact HB.out | apply below_alloc | apply pw_below_drewN | apply below_drew1) | exact HB.out))) : w.heap.size ≤ gb176)); have n3_ := Aside0.mk ((by rw [hg]; exact (below_size (by repeat (first | (with_reducible first | exact HB.out | apply below_alloc | apply pw_below_drewN | apply below_drew1) | exact HB.out))) : w.heap.size ≤ gb176)); clear HB; have HB := n0_; have BK176 := n1_; have GW176 := n2_; have GE176 := n3_; clear n0_ n1_ n2_ n3_; clear hb hbox hg; have hcz11_0 : w10.cell? ⟨gb176, 0, none⟩ = some (.int .i64 a0_0) := (blk_cell BK176.out 0).trans rfl; have hcz11_1 : w10.cell? ⟨gb176, 1, none⟩ = some (.int .i64 a0_1) := (blk_cell BK176.out 1).trans rfl; have hcz11_2 : w10.cell? ⟨gb176, 2, none⟩ = some (.int .i64 a0_2) := (blk_cell BK176.out 2).trans rfl; have hcz11_3 : w10.cell? ⟨gb176, 3, none⟩ = some (.string a0_3) := (blk_cell BK176.out 3).trans rfl; have hcz11_4 : w10.cell? ⟨gb176, 4, none⟩ = some (.string a0_4) := (blk_cell BK176.out 4).trans rfl; have hcz11_5 : w10.cell? ⟨gb176, 5, none⟩ = some (.slice A0_5 l0_5.length c0_5) := (blk_cell BK176.out 5).trans rfl; have hfz11_0 := blk_frozen BK176.out 0; have hfz11_1 := blk_frozen BK176.out 1; have hfz11_2 := blk_frozen BK176.out 2; have hfz11_3 := blk_frozen BK176.out 3; have hfz11_4 := blk_frozen BK176.out 4; have hfz11_5 := blk_frozen BK176.out 5) | ((with_reducible refine gate_callee (f := 35) rfl ?_); refine goesL_ (some 5) rfl rfl Try.func35 (by kernel_rfl) rfl #[.agg #[.int .i64 a0_0, .int .i64 a0_1, .int .i64 a0_2, .string a0_3, .string a0_4, .slice A0_5 l0_5.length c0_5]] rfl (by (try simp only [List.map_toArray, List.map_cons, List.map_nil]); first | done | rfl | (simp only [List.length_drop, List.length_take]; rfl)) ?_; (with_reducible refine (record_May.calls k a0_0 a0_1 a0_2 a0_3 a0_4 _ _ l0_5 false _ ?side1 ?side2 A2.out).mono ?_); (case side1 => repeat (first | exact (Kd.C_below HR0_5.out HB.out) | (with_reducible refine Kd.C_alloc ?_ _) | (with_reducible refine Kd.C_drewN ?_ _) | (with_reducible refine Kd.C_drew ?_))); (case side2 => exact HC0_5.out); rintro e w12 ⟨rfl, hb⟩; refine ⟨_, rfl, ?_⟩; have n0_ := Aside0.mk (blk_below (g := gb176) (o := .cells #[.int .i64 a0_0, .int .i64 a0_1, .int .i64 a0_2, .string a0_3, .string a0_4, .slice A0_5 l0_5.length c0_5] 42 (0, 0)) (by (with_reducible repeat (first | refine blk_drewN ?_ _ | refine blk_drew ?_ | refine blk_alloc ?_ _)); exact BK176.out) hb); have n1_ := Aside0.mk (below_step (by repeat (first | (with_reducible first | exact HB.out | apply below_alloc | apply pw_below_drewN | apply below_drew1 | refine below_set ?_ GE176.out) | exact HB.out)) hb); clear BK176; clear HB; have BK176 := n0_; have HB := n1_; clear n0_ n1_; (try clear hb); (try clear hb2); (try clear hk); (try clear hi)))
    go_ret2
    exact ⟨by first | rfl | (simp [errW_none, errW_some] <;> rfl) | (simp [*, errW_none, errW_some] <;> rfl), by repeat (first | (with_reducible first | exact HB.out | apply below_alloc | apply pw_below_drewN | apply below_drew1 | refine below_set ?_ GE176.out) | exact HB.out)⟩
end Go.Proofs.Ytmhjhhlgdenlkaa.P
set_option linter.unusedVariables false
set_option linter.unusedSimpArgs false
namespace Go.Proofs.Ytmhjhhlgdenlkaa.P
open Go.RowKit Go.Proofs.YtmhjhhlgdenlkaaW.PrintWords
theorem isName_size {s : ByteArray} (h : isName s = true) : s.size ≤ 12 := by
  unfold isName at h
  simp only [Bool.and_eq_true, decide_eq_true_eq] at h
  exact h.1.1.2
theorem flat_small : ∀ (l : List S80), (∀ x : S80, x ∈ l → (step8 x).length ≤ 100) → (l.flatMap step8).length ≤ l.length * 100
  | [], _ => Nat.le_refl _
  | x :: l, h => by
    rw [List.flatMap_cons, List.length_append, List.length_cons]
    have h1 := h x (by simp)
    have h2 := flat_small l (fun y hy => h y (by simp [hy]))
    omega
theorem okSteps_tiny (l : List S80) (h : okSteps l = true) : l.length ≤ 5 ∧ (∀ x : S80, x ∈ l → x.f0.size ≤ 12) ∧ (l.flatMap step8).length ≤ 500 := by
  have hl := (okSteps_small l h).1
  unfold okSteps at h
  simp only [Bool.and_eq_true, decide_eq_true_eq] at h
  have hx : ∀ x : S80, x ∈ l → x.f0.size ≤ 12 ∧ (step8 x).length ≤ 100 := by
    intro x hx
    obtain ⟨i, hi, rfl⟩ := List.getElem_of_mem hx
    have hu := h.2
    unfold okUpto at hu
    rw [List.all_eq_true] at hu
    have ha := hu i (by simpa using hi)
    have hg : rd_T80 l (i : Int) = l[i] := by simp [rd_T80, List.getD_eq_getElem?_getD, List.getElem?_eq_getElem hi]
    unfold okAt okRest at ha
    rw [hg] at ha
    simp only [Bool.and_eq_true, decide_eq_true_eq] at ha
    obtain ⟨⟨hn, _⟩, ⟨⟨h1, hp⟩, hs⟩, h5⟩ := ha
    have hn' := isName_size hn
    unfold isShort at hs
    simp only [Bool.and_eq_true, decide_eq_true_eq] at hs
    have sz : ∀ s : ByteArray, s.size = s.toList.length := by
      intro s
      rw [Lib.toList_data]
      rfl
    have lA : ∀ n, (opA n).length ≤ 7 := by intro n; unfold opA; split <;> (try split) <;> (try split) <;> simp
    have lB : ∀ n, (opB n).length ≤ 7 := by intro n; unfold opB; split <;> (try split) <;> (try split) <;> simp
    have h23 : (l[i]).f2.size ≤ 7 ∧ (l[i]).f3.size ≤ 7 := by
      unfold isPair at hp
      simp only [Bool.or_eq_true, decide_eq_true_eq] at hp
      rw [sz, sz]
      rcases hp with ⟨a, b⟩ | ⟨a, b⟩
      · rw [a, b]; exact ⟨lA _, lB _⟩
      · rw [a, b]; exact ⟨lB _, lA _⟩
    rw [step8_size]
    omega
  refine ⟨hl, fun x h => (hx x h).1, ?_⟩
  have := flat_small l (fun x h => (hx x h).2)
  omega
theorem okR_small (r : S42) (h : okR r = true) : r.f5.length ≤ 5 ∧ (∀ x : S80, x ∈ r.f5 → x.f0.size ≤ 12) ∧ (spell8 r.f0 r.f1 r.f2 r.f3 r.f4 r.f5).length ≤ 4000 := by
  unfold okR at h
  simp only [Bool.and_eq_true, decide_eq_true_eq] at h
  obtain ⟨hid, h⟩ := h
  have e6 : ([r.f0, r.f1, r.f2, 0].flatMap Writer.be32).length = 16 := by simp [Writer.be32]
  unfold spell8
  rw [List.length_append, e6]
  by_cases h1 : r.f0 = 1
  · rw [if_pos h1] at h
    rw [if_pos h1]
    simp only [Bool.and_eq_true, decide_eq_true_eq] at h
    obtain ⟨⟨⟨⟨hn, hk⟩, hs⟩, hb⟩, hst⟩ := h
    have ht := okSteps_tiny r.f5 hst
    unfold isShort at hs
    simp only [Bool.and_eq_true, decide_eq_true_eq] at hs
    refine ⟨ht.1, ht.2.1, ?_⟩
    rw [List.length_append, List.length_append, List.length_append, Writer.text8_length, Writer.text8_length, Writer.be32_length]
    omega
  · rw [if_neg h1] at h
    rw [if_neg h1]
    simp only [Bool.and_eq_true, decide_eq_true_eq] at h
    obtain ⟨⟨⟨hk, hb⟩, hl⟩, _⟩ := h
    have e5 : r.f5 = [] := List.length_eq_zero_iff.1 hl
    rw [e5]
    exact ⟨by simp, by simp, by simp⟩
theorem spellR_size (r : S42) (h : okR r = true) : (spellR r).size ≤ 4000 := by
  have := (okR_small r h).2.2
  have e : (spellR r).size = (spell8 r.f0 r.f1 r.f2 r.f3 r.f4 r.f5).length := by
    unfold spellR
    simp [ByteArray.size]
  omega
def bytesT (r : S42) : ByteArray × Int := if okR r = true then (frame (spellR r), 0) else (⟨#[]⟩, 1)
theorem record_Bytes_tot (r : S42) (hsz : ∀ x : S80, x ∈ r.f5 → x.f0.size ≤ 140737488351232) (k : Nat) (hk : 6000 ≤ k) : record_Bytes.f k r.f0 r.f1 r.f2 r.f3 r.f4 r.f5 = some (bytesT r) := by
  unfold record_Bytes.f bytesT
  rw [record_May_tot r hsz k (by omega), Option.bind_some]
  cases hok : okR r with
  | false => rw [if_neg (by simp), if_neg (by simp)]
  | true =>
    rw [if_pos rfl, if_pos rfl]
    have h1 := (okR_small r hok).2.2
    have h2 := spellR_size r hok
    have hs : record_spell.f r.f0 r.f1 r.f2 r.f3 r.f4 r.f5 = some (spellR r) := by
      unfold record_spell.f
      rw [if_pos (by omega)]
      rfl
    unfold record_Frame.f
    rw [hs, Option.bind_some, if_neg (by omega), seal_Add_tot _ h2 k (by omega)]
    rfl
end Go.Proofs.Ytmhjhhlgdenlkaa.P
set_option linter.unusedVariables false
set_option linter.unusedSimpArgs false
namespace Go.Proofs.Ytmhjhhlgdenlkaa.P
open Go.RowKit Go.Proofs.YtmhjhhlgdenlkaaW.PrintWords
theorem unf_inv {s t y : ByteArray} (h : unf s = some (t, y)) : s = frame t ++ y ∧ t.size ≤ 4000 := by
  have hr := rd4_range s
  unfold unf at h
  by_cases h1 : s.size < 8
  · rw [if_pos h1] at h; simp at h
  rw [if_neg h1] at h
  by_cases h2 : rd4 s > 4000
  · rw [if_pos h2] at h; simp at h
  rw [if_neg h2] at h
  by_cases h3 : rd4 s > (s.size : Int) - 8
  · rw [if_pos h3] at h; simp at h
  rw [if_neg h3] at h
  have hm : rd4 s = ((rd4 s).toNat : Int) := by omega
  have hf := frame_iff s (rd4 s).toNat hm (by omega) (by omega)
  by_cases h4 : rd4 (s.extract 4 s.size) = chk (s.extract 0 4 ++ s.extract 8 (8 + (rd4 s).toNat))
  · rw [if_pos h4] at h
    simp only [Option.some.injEq, Prod.mk.injEq] at h
    obtain ⟨e1, e2⟩ := h
    have hq := hf.2 h4
    rw [e1] at hq
    refine ⟨?_, ?_⟩
    · rw [hq, ← e2]
      exact ext_split s (8 + (rd4 s).toNat) (by omega)
    · rw [← e1, ByteArray.size_extract]; omega
  · rw [if_neg h4] at h; simp at h
theorem takeR_inv {s y : ByteArray} {r : S42} (h : takeR s = some (r, y)) : s = frame (spellR r) ++ y ∧ okR r = true ∧ (spellR r).size ≤ 4000 := by
  unfold takeR at h
  cases hu : unf s with
  | none => rw [hu] at h; simp at h
  | some p =>
    obtain ⟨t, z⟩ := p
    rw [hu, Option.bind_some] at h
    by_cases hk : okT t = true
    · rw [if_pos hk] at h
      simp only [Option.some.injEq, Prod.mk.injEq] at h
      obtain ⟨e1, e2⟩ := h
      have hi := unf_inv hu
      unfold okT at hk
      simp only [Bool.and_eq_true, decide_eq_true_eq] at hk
      rw [e1] at hk
      rw [hk.2, ← e2]
      exact ⟨hi.1, hk.1.2, hi.2⟩
    · rw [if_neg hk] at h; simp at h
theorem takeR_size {s y : ByteArray} {r : S42} (h : takeR s = some (r, y)) : y.size + 8 ≤ s.size := by
  have h1 := (takeR_inv h).1
  have h2 := frame_size (spellR r)
  have : s.size = (frame (spellR r)).size + y.size := by rw [← ByteArray.size_append, ← h1]
  omega
def scanN : Nat → ByteArray → List S42 × Nat
  | 0, _ => ([], 0)
  | m + 1, s => match takeR s with
    | none => ([], 0)
    | some (r, y) => (r :: (scanN m y).1, (s.size - y.size) + (scanN m y).2)
theorem scanN_none {m : Nat} {s : ByteArray} (h : takeR s = none) : scanN m s = ([], 0) := by
  cases m with
  | zero => rfl
  | succ m => unfold scanN; rw [h]
theorem scanN_some {m : Nat} {s y : ByteArray} {r : S42} (h : takeR s = some (r, y)) : scanN (m + 1) s = (r :: (scanN m y).1, (s.size - y.size) + (scanN m y).2) := by
  rw [scanN, h]
theorem scanN_le : ∀ (m : Nat) (s : ByteArray), (scanN m s).2 ≤ s.size ∧ 8 * (scanN m s).1.length ≤ (scanN m s).2
  | 0, s => by unfold scanN; simp
  | m + 1, s => by
    cases h : takeR s with
    | none => rw [scanN_none h]; simp
    | some p =>
      obtain ⟨r, y⟩ := p
      have h1 := takeR_size h
      have h2 := scanN_le m y
      rw [scanN_some h]
      simp only [List.length_cons]
      omega
theorem scanN_more : ∀ (m n : Nat) (s : ByteArray), s.size ≤ m → s.size ≤ n → scanN m s = scanN n s
  | 0, n, s, h, hn => by
    have : takeR s = none := by
      cases h2 : takeR s with
      | none => rfl
      | some p => have := takeR_size h2; omega
    rw [scanN_none this, scanN_none this]
  | m + 1, n, s, h, hn => by
    cases h2 : takeR s with
    | none => rw [scanN_none h2, scanN_none h2]
    | some p =>
      obtain ⟨r, y⟩ := p
      have h3 := takeR_size h2
      obtain ⟨n, rfl⟩ : ∃ j, n = j + 1 := ⟨n - 1, by omega⟩
      rw [scanN_some h2, scanN_some h2, scanN_more m n y (by omega) (by omega)]
def scanT (s : ByteArray) : List S42 × Nat := scanN s.size s
theorem scanT_none {s : ByteArray} (h : takeR s = none) : scanT s = ([], 0) := scanN_none h
theorem scanT_some {s y : ByteArray} {r : S42} (h : takeR s = some (r, y)) : scanT s = (r :: (scanT y).1, (s.size - y.size) + (scanT y).2) := by
  have h3 := takeR_size h
  have e : scanT s = scanN ((s.size - 1) + 1) s := by unfold scanT; congr 1; omega
  rw [e, scanN_some h, scanN_more (s.size - 1) y.size y (by omega) (Nat.le_refl _)]
  rfl
theorem scanT_frame (r : S42) (y : ByteArray) (h : okR r = true) : scanT (frame (spellR r) ++ y) = (r :: (scanT y).1, (frame (spellR r)).size + (scanT y).2) := by
  have hz := spellR_size r h
  rw [scanT_some (takeR_frame r y h hz), ByteArray.size_append]
  congr 2
  omega
theorem scanT_le (s : ByteArray) : (scanT s).2 ≤ s.size ∧ 8 * (scanT s).1.length ≤ (scanT s).2 := scanN_le _ _
theorem takeT_some {s y : ByteArray} {r : S42} (h : takeR s = some (r, y)) : takeT s = (r, y, 0) := by unfold takeT; rw [h]
theorem takeT_none {s : ByteArray} (h : takeR s = none) : takeT s = (z42, ⟨#[]⟩, 10) := by unfold takeT; rw [h]
theorem Scan_l0 (s : ByteArray) (hs : s.size ≤ 1000000000) : ∀ (m k at_ : Nat) (acc : List S42), at_ ≤ s.size → s.size - at_ ≤ m → m + 1 ≤ k → acc.length ≤ at_ →
    journal_Scan.l0 k s acc (at_ : Int) = some (acc ++ (scanN m (s.extract at_ s.size)).1, ((at_ + (scanN m (s.extract at_ s.size)).2 : Nat) : Int))
  | 0, k, at_, acc, h, hm, hk, hl => by
    obtain ⟨k, rfl⟩ : ∃ j, k = j + 1 := ⟨k - 1, by omega⟩
    rw [journal_Scan.l0, if_neg (by omega)]
    simp [scanN]
  | m + 1, k, at_, acc, h, hm, hk, hl => by
    obtain ⟨k, rfl⟩ : ∃ j, k = j + 1 := ⟨k - 1, by omega⟩
    have hz : (s.extract at_ s.size).size = s.size - at_ := by rw [ByteArray.size_extract]; omega
    rw [journal_Scan.l0]
    by_cases hlt : at_ < s.size
    · rw [if_pos (by omega), if_pos (by omega), if_pos (by omega)]
      have hf : record_Take.f (s.extract ((at_ : Int)).toNat s.size) = some ((takeT (s.extract at_ s.size)).1.f0, (takeT (s.extract at_ s.size)).1.f1, (takeT (s.extract at_ s.size)).1.f2, (takeT (s.extract at_ s.size)).1.f3, (takeT (s.extract at_ s.size)).1.f4, (takeT (s.extract at_ s.size)).1.f5, (takeT (s.extract at_ s.size)).2.1, (takeT (s.extract at_ s.size)).2.2) := by
        unfold record_Take.f
        rw [Int.toNat_natCast, if_pos (by omega)]
      rw [hf, Option.bind_some]
      cases hp : takeR (s.extract at_ s.size) with
      | none =>
        rw [takeT_none hp, scanN_none hp]
        simp
      | some p =>
        obtain ⟨r, y⟩ := p
        have hsz := takeR_size hp
        have hi := (takeR_inv hp).1
        have hfr := frame_size (spellR r)
        have he2 : s.extract (s.size - y.size) s.size = y := by
          have e1 := ext_right (frame (spellR r)) y (frame (spellR r)).size rfl
          rw [← hi] at e1
          have e2 : (s.extract at_ s.size).size = (frame (spellR r)).size + y.size := by conv => lhs; rw [hi]; rw [ByteArray.size_append]
          have e3 : (s.extract at_ s.size).extract (frame (spellR r)).size (s.extract at_ s.size).size = s.extract (at_ + (frame (spellR r)).size) s.size := by
            rw [ByteArray.extract_extract, hz]
            congr 1
            omega
          rw [e3] at e1
          rw [show s.size - y.size = at_ + (frame (spellR r)).size from by omega]
          exact e1
        rw [takeT_some hp, scanN_some hp]
        simp only
        rw [if_pos trivial, if_pos (by omega), show wrap64 ((s.size : Int) - (y.size : Int)) = ((s.size - y.size : Nat) : Int) from by unfold wrap64; omega]
        have ih := Scan_l0 s hs m k (s.size - y.size) (acc ++ [r]) (by omega) (by omega) (by omega) (by rw [List.length_append, List.length_cons, List.length_nil]; omega)
        rw [he2] at ih
        obtain ⟨r0, r1, r2, r3, r4, r5⟩ := r
        rw [ih]
        simp only [Option.some.injEq, Prod.mk.injEq, List.append_assoc, List.cons_append, List.nil_append, true_and]
        omega
    · rw [if_neg (by omega)]
      have e : takeR (s.extract at_ s.size) = none := by
        cases hp : takeR (s.extract at_ s.size) with
        | none => rfl
        | some p => have := takeR_size hp; omega
      rw [scanN_none e]
      simp
theorem Scan_tot (s : ByteArray) (hs : s.size ≤ 1000000000) (k : Nat) (hk : s.size + 1 ≤ k) : journal_Scan.f k s = some ((scanT s).1, ((scanT s).2 : Int)) := by
  unfold journal_Scan.f
  have h := Scan_l0 s hs s.size k 0 [] (Nat.zero_le _) (by omega) hk (Nat.zero_le _)
  rw [show ((0 : Nat) : Int) = 0 from rfl] at h
  rw [h, ByteArray.extract_zero_size]
  unfold scanT
  simp
end Go.Proofs.Ytmhjhhlgdenlkaa.P
