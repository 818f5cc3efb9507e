/- Contract: the reference's GoodPattern. -/
import Derived.Test.YtcodncddaemhlaaDoorGlobT2
import Derived.Test.YtcodncddaemhlaaDoorAskV
import Derived.Test.YtcodncddaemhlaaDoorOwn2
namespace Go.Proofs.YtcodncddaemhlaaDoor
open Go.RowKit

theorem place_pat (c : UInt8) : ([c] ∈ ([[42], [63], [91], [93], [33], [92]] : List (List UInt8))) ↔ patC c = true := by
  unfold patC
  simp [or_assoc]
theorem seg_oneT {s : List UInt8} {i : Nat} {c : UInt8} (h : s[i]? = some c) : (s.drop i).take (i + 1 - i) = [c] := by
  rw [drop_consT h, show i + 1 - i = 1 by omega]
  rfl
theorem good_one (c : UInt8) : goodName [c] = sgn c := by unfold goodName; simp
theorem all_take_succ {s : List UInt8} {i : Nat} {c : UInt8} (h : s[i]? = some c) (p : UInt8 → Bool) : (s.take (i + 1)).all p = ((s.take i).all p && p c) := by
  rw [List.take_add_one, h, List.all_append]
  simp
theorem all_bad {s : List UInt8} {i : Nat} {c : UInt8} (h : s[i]? = some c) {p : UInt8 → Bool} (hp : p c = false) : s.all p = false := by
  rw [Bool.eq_false_iff]
  intro h2
  have := List.all_eq_true.1 h2 c (List.mem_of_getElem? h)
  rw [hp] at this
  exact absurd this (by simp)
set_option maxRecDepth 100000 in
set_option maxHeartbeats 4000000 in
theorem rGood_any (s : List UInt8) (hs : s.length ≤ 1048576) (w : World) : Calls Tryd.prog 27 #[.string ⟨s.toArray⟩] w fun e w' => e = .returned (.bool (patB s)) ∧ Below w.heap.size w w' := by
  have CF := Lib.hid (rFault_any s (by omega) w)
  have HP : Hid (patB s = (s.all (fun c => patC c || sgn c) && decide (errG s = 0))) := Lib.hid rfl
  have HS1 := Lib.hid (strIs s)
  have hsz : (⟨s.toArray⟩ : ByteArray).size = s.length := rfl
  have HSZ := Lib.hid hsz
  have hmx : (⟨s.toArray⟩ : ByteArray).size ≤ 1048576 := by rw [hsz]; exact hs
  generalize (⟨s.toArray⟩ : ByteArray) = b at *
  clear hsz hs
  go_enter Tryd.func27, Tryd.ntmps27
  go_wp2_with fail
  refine CF.out.mono ?_
  rintro e w' ⟨rfl, hb⟩
  have HB := Lib.hid hb
  clear hb
  by_cases he : errG s = 0
  · rw [he]
    have HE := Lib.hid he
    clear he
    go_wp2_with fail
    go_loopw [9] (fun y wr => ∃ i : Nat, y = .int .i64 (i : Int) ∧ i ≤ b.size ∧ Hid ((s.take i).all (fun c => patC c || sgn c) = true) ∧ Hid (Below w.heap.size w wr)) (fun y _ => b.size - (intOf y).toNat)
    case atStart => exact ⟨0, rfl, by omega, Lib.hid rfl, HB⟩
    case round =>
      obtain ⟨i, rfl, hi, HL, HBW⟩ := hrel
      by_cases hlt : i < b.size
      · obtain ⟨c, hc⟩ : ∃ c, s[i]? = some c := ⟨_, HS1.out.at_ hlt⟩
        have hsg : b.extract i (i + 1) = ⟨#[c]⟩ := by rw [ext_seg HS1.out, seg_oneT hc]
        have HC := Lib.hid hc
        have i0 : (i : Int) < (b.size : Int) := by omega
        have i1 : (i : Int) + 1 ≤ (b.size : Int) := by omega
        have i2 : 0 ≤ (i : Int) + 1 := by omega
        have HPC := Lib.hid (place_any [[42], [63], [91], [93], [33], [92]] [c] (wr.alloc (.cells #[.string ⟨#[42]⟩, .string ⟨#[63]⟩, .string ⟨#[91]⟩, .string ⟨#[93]⟩, .string ⟨#[33]⟩, .string ⟨#[92]⟩] 9)) (A := some ⟨wr.heap.size, 0, none⟩) (n := 6) (c := 6) (rd_lit wr wr.heap.size _ _ _ rfl rfl) rfl (by decide))
        have HBN := Lib.hid (below_then HBW.out (below_new (Below.refl wr.heap.size wr) (.cells #[.string ⟨#[42]⟩, .string ⟨#[63]⟩, .string ⟨#[91]⟩, .string ⟨#[93]⟩, .string ⟨#[33]⟩, .string ⟨#[92]⟩] 9)))
        have HGN := Lib.hid (fun W => goodName_any [c] W (by simp))
        clear hc
        go_wp2_with fail
        refine HPC.out.mono ?_
        rintro e w6 ⟨ix, rfl, rfl, hor⟩
        generalize wr.alloc (.cells #[.string ⟨#[42]⟩, .string ⟨#[63]⟩, .string ⟨#[91]⟩, .string ⟨#[93]⟩, .string ⟨#[33]⟩, .string ⟨#[92]⟩] 9) = wn at *
        rcases hor with ⟨rfl, hno⟩ | ⟨kx, rfl, hyes⟩
        · have hq : patC c = false := by
            rw [Bool.eq_false_iff]
            exact fun h => hno ((place_pat c).2 h)
          cases hg : sgn c with
          | true =>
            have HG := HGN.out wn
            rw [good_one, hg] at HG
            have HG2 := Lib.hid HG
            have HN : Hid ((s.take (i + 1)).all (fun c => patC c || sgn c) = true) := Lib.hid (by rw [all_take_succ HC.out, HL.out]; simp [hg])
            clear HG hno hq hg
            go_wp2_with fail
            refine HG2.out.mono ?_
            rintro e w7 ⟨rfl, rfl⟩
            go_wp2_with fail
            exact ⟨⟨i + 1, rfl, by omega, HN, HBN⟩, measA hlt⟩
          | false =>
            have HG := HGN.out wn
            rw [good_one, hg] at HG
            have HG2 := Lib.hid HG
            have HV : Hid (false = patB s) := Lib.hid (by rw [HP.out, all_bad HC.out (by rw [hq, hg]; rfl)]; rfl)
            clear HG hno hq hg
            go_wp2_with fail
            refine HG2.out.mono ?_
            rintro e w7 ⟨rfl, rfl⟩
            go_wp2_with fail
            go_ret
            exact ⟨ret_bool HV.out, HBN.out⟩
        · have hq : patC c = true := (place_pat c).1 (List.mem_of_getElem? hyes)
          have HN : Hid ((s.take (i + 1)).all (fun c => patC c || sgn c) = true) := Lib.hid (by rw [all_take_succ HC.out, HL.out]; simp [hq])
          have hkx : ¬ ((kx : Int) < 0) := by omega
          clear hyes hq
          go_wp2_with fail
          exact ⟨⟨i + 1, rfl, by omega, HN, HBN⟩, measA hlt⟩
      · obtain rfl : i = b.size := by omega
        have HV : Hid (true = patB s) := Lib.hid (by
          have h := HL.out
          rw [List.take_of_length_le (by have := HSZ.out; omega)] at h
          rw [HP.out, h, HE.out]; rfl)
        go_wp2_with fail
        go_ret
        exact ⟨ret_bool HV.out, HBW.out⟩
  · have HV : Hid (false = patB s) := Lib.hid (by rw [HP.out]; simp [he])
    have he2 : (((errG s : Nat) : Int) != 0) = true := by simp; omega
    generalize ((errG s : Nat) : Int) = EG at *
    clear he
    go_wp2_with fail
    go_ret
    exact ⟨ret_bool HV.out, HB.out⟩
end Go.Proofs.YtcodncddaemhlaaDoor
