/- Contract: ask.pattern. The tables of utf8 lie; patterns of at most 2^20 bytes. -/
import Derived.Test.YtcodncddaemhlaaDoorAskP1
import Derived.Test.YtcodncddaemhlaaDoorGlob6
namespace Go.Proofs.YtcodncddaemhlaaDoor
open Go.RowKit

theorem map_any (s : List UInt8) (w : World) (hs : s.length ≤ 1048576) (hT : Lib.Utf8Tabs 2 3 w) :
    Calls Tryd.prog 47 #[.func (.func 48) #[] #[], .string ⟨s.toArray⟩] w fun e w' => e = .returned (.string ⟨(patD s).toArray⟩) ∧ Below w.heap.size w w' :=
  Tryd.strings_Map_grows 48 #[] (enters_of Tryd.func48 (by kernel_rfl) rfl) mapC ⟨s.toArray⟩ w (by show s.length < _; omega)
    (fun W x hx _ => patFn_any x hx W) mapC_fits hT
theorem patB_no {s : List UInt8} (h : (patD s).all sgn = false) : patB s = false := by
  unfold patB
  rw [← patD_eq, h]
  rfl
theorem patB_yes {s : List UInt8} (h : (patD s).all sgn = true) : patB s = decide (errG s = 0) := by
  unfold patB
  rw [← patD_eq, h]
  rfl
theorem take_bad {l : List UInt8} {n : Nat} (h : (l.take n).all sgn = false) : l.all sgn = false := by
  rw [Bool.eq_false_iff] at h ⊢
  intro h2
  exact h (List.all_eq_true.2 fun x hx => List.all_eq_true.1 h2 x (List.mem_of_mem_take hx))
theorem drop_all {l : List UInt8} {n : Nat} (h : (l.take n).all sgn = true) : (l.drop n).all sgn = l.all sgn := by
  conv => rhs; rw [← List.take_append_drop n l]
  rw [List.all_append, h, Bool.true_and]
theorem mk_extract (l : List UInt8) (a b : Nat) : (⟨l.toArray⟩ : ByteArray).extract a b = ⟨((l.drop a).take (b - a)).toArray⟩ := by
  have h : ((⟨l.toArray⟩ : ByteArray).extract a b).data.toList = (l.drop a).take (b - a) := Lib.extract_data _ _ _
  apply ByteArray.ext
  apply Array.ext'
  rw [h]
set_option maxRecDepth 100000 in
set_option maxHeartbeats 4000000 in
theorem pattern_any (s : List UInt8) (w : World) (hs : s.length ≤ 1048576) (hT : Lib.Utf8Tabs 2 3 w) :
    Calls Tryd.prog 36 #[.string ⟨s.toArray⟩] w fun e w' => e = .returned (.bool (patB s)) ∧ Below w.heap.size w w' := by
  have CM := Lib.hid (map_any s w hs hT)
  have CG := Lib.hid (fun W => pcCheck_any s (by omega) W)
  have CN := Lib.hid (fun (t : List UInt8) (ht : t.length ≤ 9223372036854775807) W => nmCheck_any t W ht)
  have HLN := Lib.hid (patD_len s.length s (Nat.le_refl _))
  clear hT
  go_enter Tryd.func36, Tryd.ntmps36
  go_wp2_with fail
  refine CM.out.mono ?_
  rintro e w' ⟨rfl, hb⟩
  go_wp2_with fail
  go_loopg [3, 4] (patD s).length (fun g s3 _ wx => ∃ l : List UInt8, s3 = .string ⟨l.toArray⟩ ∧ l.length ≤ g ∧ l.length ≤ 4 * 1048576 ∧ Hid (l.all sgn = (patD s).all sgn) ∧ Below w.heap.size w wx)
  case atStart => exact ⟨patD s, rfl, Nat.le_refl _, by have := HLN.out; unfold patD; omega, Lib.hid rfl, hb⟩
  case round =>
    obtain ⟨l, rfl, hg, hl, hall, hbr⟩ := hrel
    have hall' := hall.out
    by_cases h0 : l = []
    · subst h0
      have HA : Hid ((patD s).all sgn = true) := Lib.hid (by rw [← hall']; rfl)
      have hemp : (⟨([] : List UInt8).toArray⟩ : ByteArray).toList.isEmpty = true := by rw [Lib.toList_data]; rfl
      generalize (⟨([] : List UInt8).toArray⟩ : ByteArray) = B at *
      clear hall' hall hg hl
      go_wp2_with fail
      refine (CG.out _).mono ?_
      rintro e w3 ⟨rfl, hb3⟩
      have HPB := Lib.hid (patB_yes HA.out)
      have HB3 := Lib.hid (below_then hbr hb3)
      by_cases he : errG s = 0
      · rw [he]
        have HE : Hid (true = patB s) := Lib.hid (by rw [HPB.out]; simp [he])
        clear he
        go_wp2_with fail
        go_ret
        exact ⟨ret_bool HE.out, HB3.out⟩
      · have HE : Hid (false = patB s) := Lib.hid (by rw [HPB.out]; simp [he])
        have he2 : (((errG s : Nat) : Int) == 0) = false := by simp; omega
        generalize ((errG s : Nat) : Int) = EG at *
        clear he
        go_wp2_with fail
        go_ret
        exact ⟨ret_bool HE.out, HB3.out⟩
    · have hpos : 0 < l.length := List.length_pos_iff.2 h0
      obtain ⟨g', rfl⟩ : ∃ g', gk = g' + 1 := ⟨gk - 1, by omega⟩
      obtain ⟨n, hn⟩ : ∃ n, n = min l.length 40 := ⟨_, rfl⟩
      have hn1 : 1 ≤ n := by omega
      have hn2 : n ≤ l.length := by omega
      have HGD := Lib.hid (chunk_good l n h0 hn)
      have hmin : min ((l.length : Nat) : Int) 40 = (n : Int) := by omega
      have hemp : (⟨l.toArray⟩ : ByteArray).toList.isEmpty = false := by
        rw [Lib.toList_data]
        cases l with
        | nil => exact absurd rfl h0
        | cons a t => rfl
      have hx1 : (⟨l.toArray⟩ : ByteArray).extract 0 n = ⟨(l.take n).toArray⟩ := by rw [mk_extract]; simp
      have hx2 : (⟨l.toArray⟩ : ByteArray).extract n (⟨l.toArray⟩ : ByteArray).size = ⟨(l.drop n).toArray⟩ := by
        rw [mk_extract]
        congr 2
        exact List.take_of_length_le (by rw [List.length_drop]; exact Nat.le_refl _)
      have hsz : ((⟨l.toArray⟩ : ByteArray).size : Int) = ((l.length : Nat) : Int) := rfl
      have hnz : (n : Int) ≤ ((⟨l.toArray⟩ : ByteArray).size : Int) := by rw [hsz]; omega
      have CK := CN.out (l.take n) (by rw [List.length_take]; omega)
      unfold sv at CK
      rw [← hx1] at CK
      have HX2 := Lib.hid hx2
      cases hq : (l.take n).all sgn with
      | true =>
        have HE : nameErr (l.take n) = 0 := by unfold nameErr; rw [HGD.out, hq]; rfl
        rw [HE] at CK
        have CK2 := Lib.hid CK
        have HN : Hid ((l.drop n).all sgn = (patD s).all sgn) := Lib.hid (by rw [drop_all hq]; exact hall')
        clear CK HE hq hall' hall hx1 hx2 hn
        generalize (⟨l.toArray⟩ : ByteArray) = B at *
        go_wp2_with fail
        refine (CK2.out _).mono ?_
        rintro e w3 ⟨rfl, rfl⟩
        go_wp2_with fail
        go_roundg g'
        case measure => omega
        case rel => exact ⟨l.drop n, by congr 1, by rw [List.length_drop]; omega, by rw [List.length_drop]; omega, HN, hbr⟩
      | false =>
        have HE : nameErr (l.take n) = 3 := by unfold nameErr; rw [HGD.out, hq]; rfl
        rw [HE] at CK
        have CK2 := Lib.hid CK
        have HPB : Hid (false = patB s) := Lib.hid (patB_no (by rw [← hall']; exact take_bad hq)).symm
        clear CK HE hq hall' hall hx1 hx2 hn
        generalize (⟨l.toArray⟩ : ByteArray) = B at *
        go_wp2_with fail
        refine (CK2.out _).mono ?_
        rintro e w3 ⟨rfl, rfl⟩
        go_wp2_with fail
        go_ret
        exact ⟨ret_bool HPB.out, hbr⟩
end Go.Proofs.YtcodncddaemhlaaDoor
