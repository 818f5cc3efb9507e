/- Contracts: line.Words, line.Split; the reference's WordsOf. -/
import Derived.Test.YtbgcbigplegpmaaDoorLnWords
import Derived.Test.YtbgcbigplegpmaaDoorLn3
import Derived.Test.YtbgcbigplegpmaaDoorOwn
namespace Go.Proofs.YtbgcbigplegpmaaDoor
open Go.RowKit

theorem elStrL : ElT Tryd.prog 22 9 (.string ⟨#[]⟩) 16 := ElT.mk' Tryd.underlying22 (by kernel_rfl) rfl
def svL (s : List UInt8) : Value := .string ⟨s.toArray⟩
set_option maxRecDepth 100000 in
theorem wordsP_any (x : Nat) (W : World) : Calls Tryd.prog 36 #[.int .i32 (x : Int)] W fun e w' => e = .returned (.bool (pB x)) ∧ w' = W := by
  by_cases h32 : x = 32
  · subst h32
    go_enter Tryd.func36, Tryd.ntmps36
    go_wp2_with fail
    go_ret
    exact ⟨rfl, rfl⟩
  · have k32 : ((x : Int) == 32) = false := by simp; omega
    by_cases h9 : x = 9
    · subst h9
      go_enter Tryd.func36, Tryd.ntmps36
      go_wp2_with fail
      go_ret
      exact ⟨rfl, rfl⟩
    · have k9 : ((x : Int) == 9) = false := by simp; omega
      have HB : Hid (pB x = false) := Lib.hid (by unfold pB; simp [h32, h9])
      clear h32 h9
      go_enter Tryd.func36, Tryd.ntmps36
      go_wp2_with fail
      go_ret
      exact ⟨by rw [HB.out]; rfl, rfl⟩
set_option maxRecDepth 100000 in
theorem lnWords_any (s : List UInt8) (hl : s.length ≤ 4294967296) (w : World) : Calls Tryd.prog 16 #[.string ⟨s.toArray⟩] w fun e w' => ∃ A, e = .returned (.slice (some ⟨A, 0, none⟩) (wordsL s).length (wordsL s).length) ∧ w'.ownsRow w.heap.size 9 1 (.slice (some ⟨A, 0, none⟩) (wordsL s).length (wordsL s).length) (wordsL s).length ((wordsL s).map svL) ∧ Below w.heap.size w w' := by
  have HF := Lib.hid (Tryd.strings_FieldsFunc_runes 36 #[] (enters_of Tryd.func36 (by kernel_rfl) rfl) pB ⟨s.toArray⟩ w hl (fun W x _ _ => (wordsP_any x W).mono fun e w' ⟨h1, h2⟩ => ⟨h1, 0, h2⟩))
  rw [fields_words (strIsL s), List.length_map, List.map_map] at HF
  generalize (⟨s.toArray⟩ : ByteArray) = b at *
  go_enter Tryd.func16, Tryd.ntmps16
  go_wp2_with fail
  refine HF.out.mono ?_
  rintro e w' ⟨A, rfl, _, hown, hb⟩
  have HO := Lib.hid hown
  have HB := Lib.hid hb
  clear hown hb
  go_wp2_with fail
  go_ret
  exact ⟨A, rfl, HO.out, HB.out⟩
def WordsPost (s : List UInt8) (w : World) (e : Ending) (w' : World) : Prop :=
  ∃ A c, e = .returned (.slice A (wordsL s).length c) ∧ w'.ownsRow w.heap.size 9 1 (.slice A (wordsL s).length c) (wordsL s).length ((wordsL s).map svL) ∧ Below w.heap.size w w'
theorem wFold_len (s : List UInt8) : ∀ i, (wFold (s.take i)).2.length ≤ i ∧ (wFold (s.take i)).1.length ≤ i
  | 0 => by simp [wFold]
  | i + 1 => by
    have ih := wFold_len s i
    by_cases hi : i < s.length
    · rw [take_snocL (List.getElem?_eq_getElem hi), wFold_snoc]
      unfold wStep
      split
      · split
        · omega
        · simp; omega
      · simp; omega
    · rw [List.take_of_length_le (by omega)] at ih ⊢
      omega
set_option maxRecDepth 100000 in
set_option maxHeartbeats 2000000 in
theorem rWordsOf_any (s : List UInt8) (hl : s.length ≤ 1048576) (w : World) : Calls Tryd.prog 21 #[.string ⟨s.toArray⟩] w (WordsPost s w) := by
  have HS := Lib.hid (strIsL s)
  generalize (⟨s.toArray⟩ : ByteArray) = b at *
  have hsz : b.size = s.length := HS.out.size
  have HSZ := Lib.hid hsz
  have hbs : b.size ≤ 1048576 := by omega
  clear hsz hl
  go_enter Tryd.func21, Tryd.ntmps21
  go_wp2_with fail
  go_loopw [3, 4, 9] (fun x y z wr => ∃ (i q c : Nat) (A : Option Addr) (X : List (List UInt8)) (U : List UInt8), x = .slice A q c ∧ y = .string ⟨U.toArray⟩ ∧ z = .int .i64 (i : Int) ∧ i ≤ b.size + 1 ∧ q ≤ i ∧ U.length ≤ i ∧ Hid (X.length = q) ∧ Hid (i ≤ b.size → wFold (s.take i) = (X, U)) ∧ Hid (i = b.size + 1 → X = wordsL s) ∧ Hid (wr.ownsRow w.heap.size 9 1 (.slice A q c) q (X.map svL)) ∧ Hid (Below w.heap.size w wr)) (fun _ _ z _ => b.size + 1 - (intOf z).toNat)
  case atStart => exact ⟨0, 0, 0, none, [], [], rfl, rfl, rfl, by omega, by omega, by simp, Lib.hid rfl, Lib.hid (fun _ => rfl), Lib.hid (fun h => by omega), Lib.hid (World.ownsRow_nil _ _ _ _), Lib.hid (Below.refl _ _)⟩
  case round =>
    obtain ⟨i, q, c, A, X, U, rfl, rfl, rfl, hi, hq, hU, HX, HW, HE, HO, HB⟩ := hrel
    have hzz : w.heap.size ≤ wr.heap.size := HB.out.size
    have hqn : (q + 1) * 16 ≤ 140737488355328 := by omega
    by_cases hlt : i < b.size
    · obtain ⟨d, hd⟩ : ∃ c, c = b[i] := ⟨_, rfl⟩
      have g0 : ∀ h, b[i]'h = d := fun _ => hd.symm
      have HC : Hid (s[i]? = some d) := Lib.hid (by rw [hd]; exact HS.out.at_ hlt)
      have hsg := ext_one HS.out HC.out
      have HF : Hid (wFold (s.take (i + 1)) = wStep (X, U) d) := Lib.hid (by rw [take_snocL HC.out, wFold_snoc, HW.out (by omega)])
      have i0 : (i : Int) < (b.size : Int) := by omega
      have i1 : (i : Int) < (b.size : Int) + 1 := by omega
      have i2 : (i : Int) + 1 ≤ (b.size : Int) := by omega
      have HNE : Hid (i + 1 = b.size + 1 → False) := Lib.hid (by omega)
      clear hd
      cases hb : blankB d with
      | true =>
        have HBL := Lib.hid (fun W => rBlank_is d W hb)
        by_cases hUe : U = []
        · subst hUe
          have HF2 : Hid (wFold (s.take (i + 1)) = (X, [])) := Lib.hid (by rw [HF.out]; unfold wStep; rw [hb]; rfl)
          clear hb
          go_wp2_with fail
          refine (HBL.out _).mono ?_
          rintro e w2 ⟨rfl, rfl⟩
          go_wp2_with fail
          exact ⟨⟨i + 1, q, c, A, X, [], rfl, rfl, rfl, by omega, by omega, by simp, HX, Lib.hid (fun _ => HF2.out), Lib.hid (fun h => (HNE.out h).elim), HO, HB⟩, by simp only [intOf]; omega⟩
        · have HF2 : Hid (wFold (s.take (i + 1)) = (X ++ [U], [])) := Lib.hid (by
            rw [HF.out]; unfold wStep; rw [hb]
            have : U.isEmpty = false := by cases U with
              | nil => exact absurd rfl hUe
              | cons a l => rfl
            simp [this])
          have HD : Hid ((⟨U.toArray⟩ : ByteArray).toList.isEmpty = false) := Lib.hid (by rw [Lib.toList_data]; cases U with
            | nil => exact absurd rfl hUe
            | cons a l => rfl)
          have HSU := Lib.hid (show Value.string ⟨U.toArray⟩ = svL U from rfl)
          generalize (⟨U.toArray⟩ : ByteArray) = bu at *
          have hd2 := HD.out
          clear hb hUe
          go_wp2_with fail
          refine (HBL.out _).mono ?_
          rintro e w2 ⟨rfl, rfl⟩
          go_wp2_with (at_builtin; refine wpList_push elStrL wr _ _ w.heap.size A q c _ (.string bu) HO.out rfl hzz hqn (by omega) rfl rfl rfl rfl ?_; intro A' c' w5 hown5 hb5)
          exact ⟨⟨i + 1, q + 1, c', A', X ++ [U], [], rfl, rfl, rfl, by omega, by omega, by simp, Lib.hid (by simp [HX.out]), Lib.hid (fun _ => HF2.out), Lib.hid (fun h => (HNE.out h).elim), Lib.hid (by rw [List.map_append, List.map_cons, List.map_nil, ← HSU.out]; exact hown5), Lib.hid (HB.out.trans hb5)⟩, by simp only [intOf]; omega⟩
      | false =>
        have HBL := Lib.hid (fun W => rBlank_is d W hb)
        have HF2 : Hid (wFold (s.take (i + 1)) = (X, U ++ [d])) := Lib.hid (by rw [HF.out]; unfold wStep; rw [hb]; rfl)
        have hcat := Lib.hid (show (⟨U.toArray⟩ : ByteArray) ++ ⟨#[d]⟩ = ⟨(U ++ [d]).toArray⟩ from cat_bytesL U [d])
        have hus : (⟨U.toArray⟩ : ByteArray).size ≤ 1048577 := by show U.length ≤ _; omega
        generalize (⟨U.toArray⟩ : ByteArray) = bu at *
        clear hb
        go_wp2_with fail
        refine (HBL.out _).mono ?_
        rintro e w2 ⟨rfl, rfl⟩
        go_wp2_with fail
        exact ⟨⟨i + 1, q, c, A, X, U ++ [d], rfl, congrArg Value.string hcat.out, rfl, by omega, by omega, by simp; omega, HX, Lib.hid (fun _ => HF2.out), Lib.hid (fun h => (HNE.out h).elim), HO, HB⟩, by simp only [intOf]; omega⟩
    · by_cases hie : i = b.size
      · subst hie
        have HWE : Hid (wordsL s = wEnd (X, U)) := Lib.hid (by
          have h := HW.out (Nat.le_refl _)
          rw [List.take_of_length_le (by rw [HSZ.out]; exact Nat.le_refl _)] at h
          unfold wordsL
          rw [h])
        have i0 : ¬ ((b.size : Int) < (b.size : Int)) := by omega
        have i1 : (b.size : Int) < (b.size : Int) + 1 := by omega
        by_cases hUe : U = []
        · subst hUe
          have HXE : Hid (X = wordsL s) := Lib.hid (by rw [HWE.out]; rfl)
          go_wp2_with fail
          exact ⟨⟨b.size + 1, q, c, A, X, [], rfl, rfl, rfl, by omega, by omega, by simp, HX, Lib.hid (fun h => by omega), Lib.hid (fun _ => HXE.out), HO, HB⟩, by simp only [intOf]; omega⟩
        · have HXE : Hid (X ++ [U] = wordsL s) := Lib.hid (by
            rw [HWE.out]; unfold wEnd
            have : U.isEmpty = false := by cases U with
              | nil => exact absurd rfl hUe
              | cons a l => rfl
            simp [this])
          have HD : Hid ((⟨U.toArray⟩ : ByteArray).toList.isEmpty = false) := Lib.hid (by rw [Lib.toList_data]; cases U with
            | nil => exact absurd rfl hUe
            | cons a l => rfl)
          have HSU := Lib.hid (show Value.string ⟨U.toArray⟩ = svL U from rfl)
          generalize (⟨U.toArray⟩ : ByteArray) = bu at *
          have hd2 := HD.out
          clear hUe
          go_wp2_with (at_builtin; refine wpList_push elStrL wr _ _ w.heap.size A q c _ (.string bu) HO.out rfl hzz hqn (by omega) rfl rfl rfl rfl ?_; intro A' c' w5 hown5 hb5)
          exact ⟨⟨b.size + 1, q + 1, c', A', X ++ [U], [], rfl, rfl, rfl, by omega, by omega, by simp, Lib.hid (by simp [HX.out]), Lib.hid (fun h => by omega), Lib.hid (fun _ => HXE.out), Lib.hid (by rw [List.map_append, List.map_cons, List.map_nil, ← HSU.out]; exact hown5), Lib.hid (HB.out.trans hb5)⟩, by simp only [intOf]; omega⟩
      · have hi2 : i = b.size + 1 := by omega
        have HXE : Hid (X = wordsL s) := Lib.hid (HE.out hi2)
        have HQE : Hid ((wordsL s).length = q) := Lib.hid (by rw [← HXE.out]; exact HX.out)
        have i1 : (b.size : Int) + 1 ≤ (i : Int) := by omega
        clear hi2 hie hlt
        go_wp2_with fail
        go_ret
        refine ⟨A, c, by rw [HQE.out]; rfl, ?_, HB.out⟩
        rw [HQE.out, ← HXE.out]
        exact HO.out
end Go.Proofs.YtbgcbigplegpmaaDoor
