/- Contracts: strings.IndexRune on the signs of patterns at runes beyond ASCII; strings.ContainsRune there; the function value of ask.pattern. -/
import Derived.Test.YtcodncddaemhlaaDoorAskPlain
import Derived.Test.YtcodncddaemhlaaDoorBase
import Derived.Test.YtcodncddaemhlaaDoorQuiet
import Derived.Test.YtcodncddaemhlaaDoorShelf
import Derived.Test.YtcodncddaemhlaaDoorShelfMap
import Derived.Laws.RangeString
import Derived.Laws.Runes
import Derived.BigQuiet
import Derived.Deep.RegionHeld3
import Derived.WalkMore
import Derived.Deep.QuietTactic
import Derived.Lib.Hide
import Derived.Lib.OthersKept
import Derived.Deep.LoopGhost
import Derived.Test.YtcodncddaemhlaaDoorGlob6
namespace Go.Proofs.YtcodncddaemhlaaDoor
open Go.RowKit Go.Lib

def patS : ByteArray := ⟨#[42, 63, 91, 93, 33, 92]⟩
theorem patS_lt : ∀ x ∈ patS.data.toList, x.toNat < 128 := by decide
theorem enc_high (r : Int) (h0 : 128 ≤ r) (h1 : r ≤ 1114111) : ∀ x ∈ encodeRune r, 128 ≤ x.toNat := by
  unfold encodeRune encodeRuneZ
  rw [if_neg (by omega)]
  repeat' split
  all_goals (simp only [List.map_cons, List.map_nil, List.forall_mem_cons, List.not_mem_nil, false_implies, implies_true, and_true]; (try simp [Nat.toUInt8]); (try omega))
theorem iter_below (w : World) (s : ByteArray) (pos : Nat) : Below w.heap.size w (w.iter s pos) := by
  exact below_new (Below.refl w.heap.size w) (.stringIter s pos)
set_option maxRecDepth 100000 in
set_option maxHeartbeats 4000000 in
theorem ixRune_err (w : World) : Calls Tryd.prog 73 #[.string patS, .int .i32 65533] w fun e w' => e = .returned (.int .i64 (-1)) ∧ Below w.heap.size w w' := by
  have HA : Hid (∀ i, (h : i < patS.size) → (patS[i]'h).toNat < 128) := Lib.hid (by decide)
  have hz : patS.size = 6 := rfl
  generalize patS = S at *
  go_enter Tryd.func73, Tryd.ntmps73
  go_wp2_with fail
  go_loopg [5, 6] 6 (fun g _ _ wx => ∃ i : Nat, i + g = 6 ∧ wx = w.iter S i)
  case atStart => exact ⟨0, by omega, rfl⟩
  case round =>
    obtain ⟨i, hig, rfl⟩ := hrel
    cases gk with
    | zero =>
      obtain rfl : i = 6 := by omega
      have hnx := fun ty => run_next_end (P := Tryd.prog) w S 6 ty (by omega)
      go_wp2_with fail
      go_ret
      exact ⟨rfl, iter_below w S 6⟩
    | succ g =>
      have hi : i < S.size := by omega
      obtain ⟨x, hx⟩ : ∃ x : UInt8, S[i]'hi = x := ⟨_, rfl⟩
      have hx128 : x.toNat < 128 := by rw [← hx]; exact HA.out i (by omega)
      have hnx := fun ty => run_next_ascii (P := Tryd.prog) w S i ty hi (by rw [hx]; exact hx128)
      rw [hx] at hnx
      clear hx
      have hne : ¬ (((x.toNat : Nat) : Int) = 65533) := by omega
      go_wp2_with fail
      go_roundg g
      case measure => omega
      case rel => exact ⟨i + 1, by omega, rfl⟩
theorem indexByte_miss (c : UInt8) : ∀ l : List UInt8, (∀ x ∈ l, x ≠ c) → Lib.indexByte l c = -1
  | [], _ => rfl
  | b :: l, h => by
    have h1 := indexByte_miss c l (fun x hx => h x (List.mem_cons_of_mem _ hx))
    have h2 : (b == c) = false := by simpa using h b (by simp)
    rw [Lib.indexByte, h1, h2]
    rfl
theorem pat_miss (c : UInt8) (h : 128 ≤ c.toNat) (m n : Nat) : Lib.indexByte (patS.extract m n).data.toList c = -1 := by
  apply indexByte_miss
  intro x hx
  rw [Lib.extract_data] at hx
  have := patS_lt x (List.mem_of_mem_drop (List.mem_of_mem_take hx))
  intro e
  subst e
  omega
set_option maxRecDepth 100000 in
set_option maxHeartbeats 4000000 in
theorem ixRune_high (r : Int) (h0 : 128 ≤ r) (h1 : r ≤ 1114111) (hv : Lib.validRune r = true) (hne : ¬ r = 65533) (w : World) : Calls Tryd.prog 73 #[.string patS, .int .i32 r] w fun e w' => e = .returned (.int .i64 (-1)) ∧ Below w.heap.size w w' := by
  have cv := Tryd.utf8_ValidRune r w
  rw [hv] at cv
  have CV := Lib.hid cv
  clear cv
  have hv2 : Utf8.valid r = true := by
    unfold Lib.validRune at hv
    have := of_decide_eq_true hv
    unfold Utf8.valid
    simp
    omega
  have hf := encode_facts r hv2 h0
  have HMM := Lib.hid pat_miss
  have hcv : ∀ W, (convert 21 9 (.int .i32 r)).run Tryd.prog W = .ok (.string (Utf8.encode r)) W := fun W => run_convert_int_string W 21 9 .i32 r (by kernel_rfl) (by kernel_rfl)
  have HA : Hid (∀ i, (h : i < patS.size) → (patS[i]'h).toNat < 128) := Lib.hid (by decide)
  have hz : patS.size = 6 := rfl
  clear hv hv2
  generalize patS = S at *
  generalize hE : Utf8.encode r = E at *
  obtain ⟨n, hn⟩ : ∃ n, E.size = n + 1 := ⟨E.size - 1, by omega⟩
  have hn1 : 1 ≤ n := by omega
  have hn3 : n ≤ 3 := by omega
  have hx : ∃ x : UInt8, E[n]'(by omega) = x ∧ 128 ≤ x.toNat := ⟨_, rfl, by have := hf.2.2 (by omega); simp only [hn, Nat.add_sub_cancel] at this; exact this⟩
  obtain ⟨x, hx, hx1⟩ := hx
  clear hf
  have hns : n < S.size := by omega
  have hy : (S[n]'hns).toNat < 128 := HA.out n hns
  generalize hY : S[n]'hns = y at *
  have hxy : ((((y.toNat : Nat) : Int)) != ((x.toNat : Nat) : Int)) = true := by simp; omega
  have CI : Hid (∀ a b W, Calls Tryd.prog 75 #[.string (S.extract a b), .int .u8 ((x.toNat : Nat) : Int)] W fun e w' => e = .returned (.int .i64 (-1)) ∧ W = w') := Lib.hid fun a b W => by
    have h1 := Tryd.strings_IndexByte (S.extract a b) ((x.toNat : Nat) : Int) W
    rw [show (((x.toNat : Nat) : Int)).toNat.toUInt8 = x by simp, HMM.out x hx1 a b] at h1
    exact h1.mono fun _ _ h => ⟨h.1, h.2.symm⟩
  have q1 : (1 : Int) < (S.size : Int) := by omega
  have q2 : (2 : Int) < (S.size : Int) := by omega
  have q3 : (3 : Int) < (S.size : Int) := by omega
  have q4 : (2 : Int) ≤ (S.size : Int) := by omega
  have q5 : (3 : Int) ≤ (S.size : Int) := by omega
  have q6 : (4 : Int) ≤ (S.size : Int) := by omega
  have w1 : IntKind.i64.wrap (1 + 1) = 2 := by decide
  have w2 : IntKind.i64.wrap (2 + 1) = 3 := by decide
  have w3 : IntKind.i64.wrap (3 + 1) = 4 := by decide
  clear hz
  rcases (by omega : n = 1 ∨ n = 2 ∨ n = 3) with rfl | rfl | rfl
  · go_enter Tryd.func73, Tryd.ntmps73
    go_wp2_with fail
    refine CV.out.mono ?_
    rintro e w' ⟨rfl, rfl⟩
    go_wp2_with fail
    go_step3
    go_wp2_with fail
    go_loopg [9, 10] 1 (fun g s9 s10 wx => s9 = .int .i64 1 ∧ s10 = .int .i64 0 ∧ Below w'.heap.size w' wx)
    case atStart => exact ⟨by go_num, rfl, Below.refl _ _⟩
    case round =>
      obtain ⟨rfl, rfl, B0⟩ := hrel
      go_wp2_with fail
      go_step3
      go_wp2_with fail
      go_region
      go_wp2_with fail
      have B1 := B0.drew
      generalize wr.drew = wz at *
      go_quiet ((go_at_call 75; exact quiet_left (CI.out _ _ _)))
      go_wp2_with fail
      simp only [Exit.noGoto_ret, Exit.inBlock, Exit.then]
      go_ret
      exact ⟨rfl, below_drewN B1 _⟩
  · go_enter Tryd.func73, Tryd.ntmps73
    go_wp2_with fail
    refine CV.out.mono ?_
    rintro e w' ⟨rfl, rfl⟩
    go_wp2_with fail
    go_step3
    go_wp2_with fail
    go_loopg [9, 10] 1 (fun g s9 s10 wx => s9 = .int .i64 2 ∧ s10 = .int .i64 0 ∧ Below w'.heap.size w' wx)
    case atStart => exact ⟨by go_num, rfl, Below.refl _ _⟩
    case round =>
      obtain ⟨rfl, rfl, B0⟩ := hrel
      go_wp2_with fail
      go_step3
      go_wp2_with fail
      go_region
      go_wp2_with fail
      have B1 := B0.drew
      generalize wr.drew = wz at *
      go_quiet ((go_at_call 75; exact quiet_left (CI.out _ _ _)))
      go_wp2_with fail
      simp only [Exit.noGoto_ret, Exit.inBlock, Exit.then]
      go_ret
      exact ⟨rfl, below_drewN B1 _⟩
  · go_enter Tryd.func73, Tryd.ntmps73
    go_wp2_with fail
    refine CV.out.mono ?_
    rintro e w' ⟨rfl, rfl⟩
    go_wp2_with fail
    go_step3
    go_wp2_with fail
    go_loopg [9, 10] 1 (fun g s9 s10 wx => s9 = .int .i64 3 ∧ s10 = .int .i64 0 ∧ Below w'.heap.size w' wx)
    case atStart => exact ⟨by go_num, rfl, Below.refl _ _⟩
    case round =>
      obtain ⟨rfl, rfl, B0⟩ := hrel
      go_wp2_with fail
      go_step3
      go_wp2_with fail
      go_region
      go_wp2_with fail
      have B1 := B0.drew
      generalize wr.drew = wz at *
      go_quiet ((go_at_call 75; exact quiet_left (CI.out _ _ _)))
      go_wp2_with fail
      simp only [Exit.noGoto_ret, Exit.inBlock, Exit.then]
      go_ret
      exact ⟨rfl, below_drewN B1 _⟩
set_option maxRecDepth 100000 in
set_option maxHeartbeats 4000000 in
theorem ixRune_bad (r : Int) (h0 : 128 ≤ r) (hv : Lib.validRune r = false) (hne : ¬ r = 65533) (w : World) : Calls Tryd.prog 73 #[.string patS, .int .i32 r] w fun e w' => e = .returned (.int .i64 (-1)) ∧ Below w.heap.size w w' := by
  have cv := Tryd.utf8_ValidRune r w
  rw [hv] at cv
  have CV := Lib.hid cv
  clear cv hv
  generalize patS = S at *
  go_enter Tryd.func73, Tryd.ntmps73
  go_wp2_with fail
  refine CV.out.mono ?_
  rintro e w' ⟨rfl, rfl⟩
  go_wp2_with fail
  go_ret
  exact ⟨rfl, Below.refl _ _⟩
theorem ixRune_beyond (r : Int) (h0 : 128 ≤ r) (h1 : r ≤ 1114111) (w : World) : Calls Tryd.prog 73 #[.string patS, .int .i32 r] w fun e w' => e = .returned (.int .i64 (-1)) ∧ Below w.heap.size w w' := by
  by_cases he : r = 65533
  · subst he; exact ixRune_err w
  · cases hv : Lib.validRune r with
    | true => exact ixRune_high r h0 h1 hv he w
    | false => exact ixRune_bad r h0 hv he w
def specC (r : Int) : Bool := decide (r = 42 ∨ r = 63 ∨ r = 91 ∨ r = 93 ∨ r = 33 ∨ r = 92)
set_option maxRecDepth 100000 in
theorem spec_ix : ∀ i : Fin 128, decide (0 ≤ Lib.indexByte patS.data.toList ((i.val : Int)).toNat.toUInt8) = specC (i.val : Int) := by decide
theorem contRune_any (x : Nat) (h1 : x ≤ 1114111) (w : World) : Calls Tryd.prog 49 #[.string patS, .int .i32 (x : Int)] w fun e w' => e = .returned (.bool (specC x)) ∧ Below w.heap.size w w' := by
  by_cases h : x < 128
  · refine (Tryd.strings_ContainsRune_ascii patS (x : Int) w (by omega) (by omega)).mono ?_
    rintro e w' ⟨rfl, rfl⟩
    exact ⟨by rw [spec_ix ⟨x, h⟩], Below.refl _ _⟩
  · have hs : specC x = false := by unfold specC; rw [decide_eq_false]; omega
    rw [hs]
    have CI := Lib.hid (ixRune_beyond (x : Int) (by omega) (by omega) w)
    generalize patS = S at *
    go_enter Tryd.func49, Tryd.ntmps49
    go_wp2_with fail
    refine CI.out.mono ?_
    rintro e w' ⟨rfl, hb⟩
    go_wp2_with fail
    go_ret
    exact ⟨rfl, hb⟩
theorem patFn_any (x : Nat) (h1 : x ≤ 1114111) (w : World) : Calls Tryd.prog 48 #[.int .i32 (x : Int)] w fun e w' => e = .returned (.int .i32 (mapC x)) ∧ Below w.heap.size w w' := by
  have CI := Lib.hid (contRune_any x h1 w)
  unfold patS at CI
  have HM : Hid (mapC x = if specC x = true then 97 else (x : Int)) := Lib.hid (by unfold mapC specC; simp)
  cases hs : specC x with
  | true =>
    rw [hs] at CI
    have hm := HM.out
    rw [hs, if_pos rfl] at hm
    rw [hm]
    clear hm hs
    go_enter Tryd.func48, Tryd.ntmps48
    go_wp2_with fail
    refine CI.out.mono ?_
    rintro e w' ⟨rfl, hb⟩
    go_wp2_with fail
    go_ret
    exact ⟨rfl, hb⟩
  | false =>
    rw [hs] at CI
    have hm := HM.out
    rw [hs, if_neg (by simp)] at hm
    rw [hm]
    clear hm hs
    go_enter Tryd.func48, Tryd.ntmps48
    go_wp2_with fail
    refine CI.out.mono ?_
    rintro e w' ⟨rfl, hb⟩
    go_wp2_with fail
    go_ret
    exact ⟨rfl, hb⟩
end Go.Proofs.YtcodncddaemhlaaDoor
/- Contract: ask.pattern. The tables of utf8 lie; patterns of at most 2^20 bytes. -/
namespace Go.Proofs.YtcodncddaemhlaaDoor
open Go.RowKit

theorem map_any (s : List UInt8) (w : World) (hs : s.length ≤ 1048576) (hT : Lib.Utf8Tabs 2 3 w) :
    Calls Tryd.prog 47 #[.func (.func 48) #[] #[], .string ⟨s.toArray⟩] w fun e w' => e = .returned (.string ⟨(patD s).toArray⟩) ∧ Below w.heap.size w w' :=
  Tryd.strings_Map_grows 48 #[] (enters_of Tryd.func48 (by kernel_rfl) rfl) mapC ⟨s.toArray⟩ w (by show s.length < _; omega)
    (fun W x hx _ => patFn_any x hx W) mapC_fits hT
theorem patB_no {s : List UInt8} (h : (patD s).all sgn = false) : patB s = false := by
  unfold patB
  rw [← patD_eq, h]
  rfl
theorem patB_yes {s : List UInt8} (h : (patD s).all sgn = true) : patB s = decide (errG s = 0) := by
  unfold patB
  rw [← patD_eq, h]
  rfl
theorem take_bad {l : List UInt8} {n : Nat} (h : (l.take n).all sgn = false) : l.all sgn = false := by
  rw [Bool.eq_false_iff] at h ⊢
  intro h2
  exact h (List.all_eq_true.2 fun x hx => List.all_eq_true.1 h2 x (List.mem_of_mem_take hx))
theorem drop_all {l : List UInt8} {n : Nat} (h : (l.take n).all sgn = true) : (l.drop n).all sgn = l.all sgn := by
  conv => rhs; rw [← List.take_append_drop n l]
  rw [List.all_append, h, Bool.true_and]
theorem mk_extract (l : List UInt8) (a b : Nat) : (⟨l.toArray⟩ : ByteArray).extract a b = ⟨((l.drop a).take (b - a)).toArray⟩ := by
  have h : ((⟨l.toArray⟩ : ByteArray).extract a b).data.toList = (l.drop a).take (b - a) := Lib.extract_data _ _ _
  apply ByteArray.ext
  apply Array.ext'
  rw [h]
set_option maxRecDepth 100000 in
set_option maxHeartbeats 4000000 in
theorem pattern_any (s : List UInt8) (w : World) (hs : s.length ≤ 1048576) (hT : Lib.Utf8Tabs 2 3 w) :
    Calls Tryd.prog 36 #[.string ⟨s.toArray⟩] w fun e w' => e = .returned (.bool (patB s)) ∧ Below w.heap.size w w' := by
  have CM := Lib.hid (map_any s w hs hT)
  have CG := Lib.hid (fun W => pcCheck_any s (by omega) W)
  have CN := Lib.hid (fun (t : List UInt8) (ht : t.length ≤ 9223372036854775807) W => nmCheck_any t W ht)
  have HLN := Lib.hid (patD_len s.length s (Nat.le_refl _))
  clear hT
  go_enter Tryd.func36, Tryd.ntmps36
  go_wp2_with fail
  refine CM.out.mono ?_
  rintro e w' ⟨rfl, hb⟩
  go_wp2_with fail
  go_loopg [3, 4] (patD s).length (fun g s3 _ wx => ∃ l : List UInt8, s3 = .string ⟨l.toArray⟩ ∧ l.length ≤ g ∧ l.length ≤ 4 * 1048576 ∧ Hid (l.all sgn = (patD s).all sgn) ∧ Below w.heap.size w wx)
  case atStart => exact ⟨patD s, rfl, Nat.le_refl _, by have := HLN.out; unfold patD; omega, Lib.hid rfl, hb⟩
  case round =>
    obtain ⟨l, rfl, hg, hl, hall, hbr⟩ := hrel
    have hall' := hall.out
    by_cases h0 : l = []
    · subst h0
      have HA : Hid ((patD s).all sgn = true) := Lib.hid (by rw [← hall']; rfl)
      have hemp : (⟨([] : List UInt8).toArray⟩ : ByteArray).toList.isEmpty = true := by rw [Lib.toList_data]; rfl
      generalize (⟨([] : List UInt8).toArray⟩ : ByteArray) = B at *
      clear hall' hall hg hl
      go_wp2_with fail
      refine (CG.out _).mono ?_
      rintro e w3 ⟨rfl, hb3⟩
      have HPB := Lib.hid (patB_yes HA.out)
      have HB3 := Lib.hid (below_then hbr hb3)
      by_cases he : errG s = 0
      · rw [he]
        have HE : Hid (true = patB s) := Lib.hid (by rw [HPB.out]; simp [he])
        clear he
        go_wp2_with fail
        go_ret
        exact ⟨ret_bool HE.out, HB3.out⟩
      · have HE : Hid (false = patB s) := Lib.hid (by rw [HPB.out]; simp [he])
        have he2 : (((errG s : Nat) : Int) == 0) = false := by simp; omega
        generalize ((errG s : Nat) : Int) = EG at *
        clear he
        go_wp2_with fail
        go_ret
        exact ⟨ret_bool HE.out, HB3.out⟩
    · have hpos : 0 < l.length := List.length_pos_iff.2 h0
      obtain ⟨g', rfl⟩ : ∃ g', gk = g' + 1 := ⟨gk - 1, by omega⟩
      obtain ⟨n, hn⟩ : ∃ n, n = min l.length 40 := ⟨_, rfl⟩
      have hn1 : 1 ≤ n := by omega
      have hn2 : n ≤ l.length := by omega
      have HGD := Lib.hid (chunk_good l n h0 hn)
      have hmin : min ((l.length : Nat) : Int) 40 = (n : Int) := by omega
      have hemp : (⟨l.toArray⟩ : ByteArray).toList.isEmpty = false := by
        rw [Lib.toList_data]
        cases l with
        | nil => exact absurd rfl h0
        | cons a t => rfl
      have hx1 : (⟨l.toArray⟩ : ByteArray).extract 0 n = ⟨(l.take n).toArray⟩ := by rw [mk_extract]; simp
      have hx2 : (⟨l.toArray⟩ : ByteArray).extract n (⟨l.toArray⟩ : ByteArray).size = ⟨(l.drop n).toArray⟩ := by
        rw [mk_extract]
        congr 2
        exact List.take_of_length_le (by rw [List.length_drop]; exact Nat.le_refl _)
      have hsz : ((⟨l.toArray⟩ : ByteArray).size : Int) = ((l.length : Nat) : Int) := rfl
      have hnz : (n : Int) ≤ ((⟨l.toArray⟩ : ByteArray).size : Int) := by rw [hsz]; omega
      have CK := CN.out (l.take n) (by rw [List.length_take]; omega)
      unfold sv at CK
      rw [← hx1] at CK
      have HX2 := Lib.hid hx2
      cases hq : (l.take n).all sgn with
      | true =>
        have HE : nameErr (l.take n) = 0 := by unfold nameErr; rw [HGD.out, hq]; rfl
        rw [HE] at CK
        have CK2 := Lib.hid CK
        have HN : Hid ((l.drop n).all sgn = (patD s).all sgn) := Lib.hid (by rw [drop_all hq]; exact hall')
        clear CK HE hq hall' hall hx1 hx2 hn
        generalize (⟨l.toArray⟩ : ByteArray) = B at *
        go_wp2_with fail
        refine (CK2.out _).mono ?_
        rintro e w3 ⟨rfl, rfl⟩
        go_wp2_with fail
        go_roundg g'
        case measure => omega
        case rel => exact ⟨l.drop n, by congr 1, by rw [List.length_drop]; omega, by rw [List.length_drop]; omega, HN, hbr⟩
      | false =>
        have HE : nameErr (l.take n) = 3 := by unfold nameErr; rw [HGD.out, hq]; rfl
        rw [HE] at CK
        have CK2 := Lib.hid CK
        have HPB : Hid (false = patB s) := Lib.hid (patB_no (by rw [← hall']; exact take_bad hq)).symm
        clear CK HE hq hall' hall hx1 hx2 hn
        generalize (⟨l.toArray⟩ : ByteArray) = B at *
        go_wp2_with fail
        refine (CK2.out _).mono ?_
        rintro e w3 ⟨rfl, rfl⟩
        go_wp2_with fail
        go_ret
        exact ⟨ret_bool HPB.out, hbr⟩
end Go.Proofs.YtcodncddaemhlaaDoor
