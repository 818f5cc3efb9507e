/- Contracts: line.cut; the reference's Trimmed, aside. -/
import Derived.Test.YtjdfmmjadjggjaaDoorLn2
namespace Go.Proofs.YtjdfmmjadjggjaaDoor
open Go.RowKit

theorem ext_takeL {b : ByteArray} {s : List UInt8} (h : StrIs b s) (i : Nat) : b.extract 0 i = ⟨(s.take i).toArray⟩ := by
  have h1 := Lib.extract_data b 0 i
  rw [h.data] at h1
  simp only [List.drop_zero, Nat.sub_zero] at h1
  calc b.extract 0 i = ⟨(b.extract 0 i).data.toList.toArray⟩ := rfl
    _ = _ := by rw [h1]
theorem ext_dropL {b : ByteArray} {s : List UInt8} (h : StrIs b s) (i : Nat) : b.extract i b.size = ⟨(s.drop i).toArray⟩ := by
  have h1 := Lib.extract_data b i b.size
  rw [h.data, h.size] at h1
  rw [List.take_of_length_le (by rw [List.length_drop]; omega)] at h1
  rw [← h.size] at h1
  calc b.extract i b.size = ⟨(b.extract i b.size).data.toList.toArray⟩ := rfl
    _ = _ := by rw [h1]
/-- No stop ahead of i. -/
def NoStop (s : List UInt8) (i : Nat) : Prop := ∀ j, j < i → ¬ (s[j]? = some 35 ∧ (if j = 0 then (none : Option UInt8) else s[j - 1]?) ≠ some 92)
theorem NoStop.succ {s : List UInt8} {i : Nat} (h : NoStop s i) (hi : ¬ (s[i]? = some 35 ∧ (if i = 0 then (none : Option UInt8) else s[i - 1]?) ≠ some 92)) : NoStop s (i + 1) := fun j hj => by
  by_cases hji : j = i
  · subst hji; exact hi
  · exact h j (by omega)
theorem aside_of {s : List UInt8} {i : Nat} (h : NoStop s i) (hi : i ≤ s.length) (he : i = s.length ∨ (s[i]? = some 35 ∧ (if i = 0 then (none : Option UInt8) else s[i - 1]?) ≠ some 92)) : asideL s = trimRL (unescL (s.take i)) := by
  unfold asideL
  rw [takeA_eq s none i hi h he]
theorem unescL_len : ∀ (n : Nat) (s : List UInt8), s.length ≤ n → (unescL s).length ≤ s.length := by
  intro n
  induction n with
  | zero =>
    intro s hn
    obtain rfl : s = [] := List.length_eq_zero_iff.1 (by omega)
    simp [unescL]
  | succ n ih =>
    intro s hn
    cases s with
    | nil => simp [unescL]
    | cons c t =>
      simp only [List.length_cons] at hn ⊢
      by_cases h : c = 92 ∧ t.head? = some 35
      · obtain ⟨rfl, ht⟩ := h
        cases t with
        | nil => cases ht
        | cons d t' =>
          simp at ht
          subst ht
          rw [unescL_hit]
          have := ih t' (by simp at hn; omega)
          simp
          omega
      · rw [unescL_skip h]
        have := ih t (by omega)
        simp
        omega
set_option maxRecDepth 100000 in
set_option maxHeartbeats 2000000 in
theorem lnCut_any (s : List UInt8) (m : Int) (w : World) (hl : s.length ≤ 1048576) (hm : w.cell? ⟨0, 0, none⟩ = some (.int .i64 m)) :
    Calls Tryd.prog 33 #[.string ⟨s.toArray⟩] w fun e w' => e = .returned (.string ⟨(asideL s).toArray⟩) ∧ Below w.heap.size w w' := by
  have HM := Lib.hid hm
  have HRT := Lib.hid (fun (i : Nat) => sReplace_any (s.take i) [92, 35] [35] m w (by rw [List.length_take]; omega) (by decide) (by decide) hm)
  have HTT := Lib.hid (fun (i : Nat) (W : World) => sTrimR_any (unescL (s.take i)) (by have := unescL_len _ (s.take i) (Nat.le_refl _); rw [List.length_take] at this; omega) W)
  have HS := Lib.hid (strIs s)
  generalize (⟨s.toArray⟩ : ByteArray) = b at *
  have hsz : b.size = s.length := HS.out.size
  have HSZ := Lib.hid hsz
  have hbs : b.size ≤ 1048576 := by omega
  clear hsz hl hm
  go_enter Tryd.func33, Tryd.ntmps33
  go_wp2_with fail
  go_loop [0, 6] (fun y x => ∃ i : Nat, y = .string b ∧ x = .int .i64 (i : Int) ∧ i ≤ b.size ∧ Hid (NoStop s i)) (fun _ x => b.size - (intOf x).toNat)
  case atStart => exact ⟨0, rfl, rfl, by omega, Lib.hid (fun j hj => by omega)⟩
  case round =>
    obtain ⟨i, rfl, rfl, hi, HNS⟩ := hrel
    by_cases hlt : i < b.size
    · have HC := Lib.hid (HS.out.at_ hlt)
      have i0 : (i : Int) < (b.size : Int) := by omega
      by_cases h35 : b[i] = 35
      · have k35 : ((b[i].toNat : Int) == 35) = true := by rw [h35]; rfl
        have HC2 : Hid (s[i]? = some 35) := Lib.hid (by rw [HC.out, h35])
        by_cases h0 : i = 0
        · subst h0
          have HAS := Lib.hid (aside_of HNS.out (by rw [← HSZ.out]; omega) (.inr ⟨HC2.out, by simp⟩))
          have hsg := ext_takeL HS.out 0
          have HR0 := Lib.hid (HRT.out 0)
          have HT0 := Lib.hid (HTT.out 0)
          rw [replace_unesc, show (⟨(s.take 0).toArray⟩ : ByteArray) = ByteArray.empty from rfl] at HR0
          clear h35 HRT HTT
          go_wp2_with fail
          refine HR0.out.mono ?_
          rintro e w2 ⟨rfl, hb2⟩
          have HB2 := Lib.hid hb2
          clear hb2
          go_wp2_with fail
          refine (HT0.out _).mono ?_
          rintro e w3 ⟨rfl, hb3⟩
          have HB3 := Lib.hid (below_newL HB2.out hb3)
          clear hb3
          go_wp2_with fail
          go_ret
          exact ⟨by rw [HAS.out]; rfl, HB3.out⟩
        · have hi1 : i - 1 < b.size := by omega
          have HP := Lib.hid (HS.out.at_ hi1)
          have e1 : (i : Int) - 1 = ((i - 1 : Nat) : Int) := by omega
          have k0 : ((i : Int) == 0) = false := by simp; omega
          by_cases h92 : b[i - 1] = 92
          · have k92 : ((b[i - 1].toNat : Int) != 92) = false := by rw [h92]; rfl
            have HNS2 := Lib.hid (HNS.out.succ (fun hh => hh.2 (by rw [if_neg h0, HP.out, h92])))
            have HI1 := Lib.hid (show i + 1 ≤ b.size from hlt)
            have HI2 := Lib.hid (measL hlt)
            clear h35 h92
            go_wp2_with fail
            exact ⟨⟨i + 1, rfl, rfl, HI1.out, HNS2⟩, HI2.out⟩
          · have k92 : ((b[i - 1].toNat : Int) != 92) = true := neK h92
            have HAS := Lib.hid (aside_of HNS.out (by rw [← HSZ.out]; omega) (.inr ⟨HC2.out, by rw [if_neg h0, HP.out]; exact fun e => h92 (by injection e)⟩))
            have hsg := ext_takeL HS.out i
            have HR0 := Lib.hid (HRT.out i)
            have HT0 := Lib.hid (HTT.out i)
            rw [replace_unesc] at HR0
            clear h35 h92 HRT HTT
            generalize s.take i = u at *
            go_wp2_with fail
            refine HR0.out.mono ?_
            rintro e w2 ⟨rfl, hb2⟩
            have HB2 := Lib.hid hb2
            clear hb2
            go_wp2_with fail
            refine (HT0.out _).mono ?_
            rintro e w3 ⟨rfl, hb3⟩
            have HB3 := Lib.hid (below_newL HB2.out hb3)
            clear hb3
            go_wp2_with fail
            go_ret
            exact ⟨by rw [HAS.out]; rfl, HB3.out⟩
      · have k35 : ((b[i].toNat : Int) == 35) = false := eqK h35
        have HNS2 := Lib.hid (HNS.out.succ (fun hh => h35 (by have := hh.1; rw [HC.out] at this; injection this)))
        clear h35
        go_wp2_with fail
        exact ⟨⟨i + 1, rfl, rfl, by omega, HNS2⟩, measL hlt⟩
    · obtain rfl : i = b.size := by omega
      have HAS := Lib.hid (aside_of HNS.out (by rw [HSZ.out]; exact Nat.le_refl _) (.inl HSZ.out))
      have HR0 := Lib.hid (HRT.out b.size)
      have HT0 := Lib.hid (HTT.out b.size)
      have HBE : Hid ((⟨(s.take b.size).toArray⟩ : ByteArray) = b) := Lib.hid (by
        rw [List.take_of_length_le (by rw [HSZ.out]; exact Nat.le_refl _)]
        have h := HS.out.data
        rw [← h])
      rw [replace_unesc, HBE.out] at HR0
      clear HRT HTT
      go_wp2_with fail
      refine HR0.out.mono ?_
      rintro e w2 ⟨rfl, hb2⟩
      have HB2 := Lib.hid hb2
      clear hb2
      go_wp2_with fail
      refine (HT0.out _).mono ?_
      rintro e w3 ⟨rfl, hb3⟩
      have HB3 := Lib.hid (below_newL HB2.out hb3)
      clear hb3
      go_wp2_with fail
      go_ret
      exact ⟨by rw [HAS.out]; rfl, HB3.out⟩
theorem trimLL_cons (c : UInt8) (t : List UInt8) : trimLL (c :: t) = if blankB c then trimLL t else c :: t := by unfold trimLL; rw [List.dropWhile_cons]
theorem trimRL_snoc (u : List UInt8) (c : UInt8) : trimRL (u ++ [c]) = if blankB c then trimRL u else u ++ [c] := by
  unfold trimRL
  rw [List.reverse_append, List.reverse_singleton, List.singleton_append, List.dropWhile_cons]
  split
  · rfl
  · simp
theorem ext_tail (a : UInt8) (t : List UInt8) : (⟨(a :: t).toArray⟩ : ByteArray).extract 1 (t.length + 1) = ⟨t.toArray⟩ := by
  have h := ext_dropL (strIs (a :: t)) 1
  exact h
theorem snoc_of {s : List UInt8} (h : s ≠ []) : ∃ u c, s = u ++ [c] := ⟨_, _, (List.dropLast_concat_getLast h).symm⟩
theorem last_at {b : ByteArray} {u : List UInt8} {c : UInt8} (h : StrIs b (u ++ [c])) (hk : u.length < b.size) : b[u.length] = c := by
  have h1 := h.at_ hk
  have h2 : (u ++ [c])[u.length]? = some c := by simp
  rw [h2] at h1
  injection h1 with h1
  exact h1.symm
def strLenL (v : Value) : Nat := match v with | .string s => s.size | _ => 0
set_option maxRecDepth 100000 in
set_option maxHeartbeats 2000000 in
theorem rTrimmed_any (s : List UInt8) (hl : s.length ≤ 1048576) (w : World) : Calls Tryd.prog 8 #[.string ⟨s.toArray⟩] w fun e w' => e = .returned (.string ⟨(trimBL s).toArray⟩) ∧ w = w' := by
  go_enter Tryd.func8, Tryd.ntmps8
  go_wp2_with fail
  go_loop [0] (fun x => ∃ t : List UInt8, x = .string ⟨t.toArray⟩ ∧ t.length ≤ 1048576 ∧ Hid (trimLL s = trimLL t)) (fun x => strLenL x)
  case atStart => exact ⟨s, rfl, hl, Lib.hid rfl⟩
  case round =>
    obtain ⟨t, rfl, ht, HT⟩ := hrel
    cases t with
    | nil =>
      go_wp2_with fail
      go_loop [0] (fun x => ∃ t : List UInt8, x = .string ⟨t.toArray⟩ ∧ t.length ≤ 1048576 ∧ Hid (trimBL s = trimRL t)) (fun x => strLenL x)
      case atStart => exact ⟨[], rfl, by simp, Lib.hid (by unfold trimBL; rw [HT.out]; rfl)⟩
      case round =>
        clear HT
        obtain ⟨t, rfl, ht, HT⟩ := hrel
        by_cases h0 : t = []
        · subst h0
          go_wp2_with fail
          go_ret
          exact ⟨by rw [HT.out]; rfl, rfl⟩
        · obtain ⟨u, d, rfl⟩ := snoc_of h0
          have HS := Lib.hid (strIs (u ++ [d]))
          have hsz : (⟨(u ++ [d]).toArray⟩ : ByteArray).size = u.length + 1 := by rw [HS.out.size]; simp
          have hul : u.length ≤ 1048575 := by simp at ht; omega
          have HD : Hid ((⟨(u ++ [d]).toArray⟩ : ByteArray).toList.isEmpty = false) := Lib.hid (by rw [Lib.toList_data]; simp)
          have HX := Lib.hid (trimRL_snoc u d)
          have HE : Hid (trimRL (u ++ [d]) = u ++ [d] → (⟨(trimRL (u ++ [d])).toArray⟩ : ByteArray) = ⟨(u ++ [d]).toArray⟩) := Lib.hid (fun h => by rw [h])
          clear ht h0
          cases hb : blankB d with
          | true =>
            rw [hb] at HX
            have HBL := Lib.hid (fun W => rBlank_is d W hb)
            have HT2 : Hid (trimBL s = trimRL u) := Lib.hid (by rw [HT.out, HX.out]; rfl)
            have hsl := ext_takeL HS.out u.length
            rw [List.take_left'  rfl] at hsl
            have HMS : Hid (strLenL (.string ⟨u.toArray⟩) < strLenL (.string ⟨(u ++ [d]).toArray⟩)) := Lib.hid (by show u.length < (u ++ [d]).length; simp)
            generalize (⟨(u ++ [d]).toArray⟩ : ByteArray) = b at *
            have g1 : ∀ h, b[u.length]'h = d := fun h => last_at HS.out h
            have e1 : (b.size : Int) - 1 = (u.length : Int) := by omega
            have l1 : (u.length : Int) < (b.size : Int) := by omega
            have l2 : u.length < b.size := by omega
            have l3 : u.length ≤ b.size := by omega
            have he := HD.out
            clear hb HE
            go_wp2_with fail
            refine (HBL.out _).mono ?_
            rintro e w2 ⟨rfl, rfl⟩
            go_wp2_with fail
            exact ⟨⟨u, rfl, by omega, HT2⟩, HMS.out⟩
          | false =>
            rw [hb] at HX
            have HBL := Lib.hid (fun W => rBlank_is d W hb)
            have HT2 : Hid ((⟨(trimBL s).toArray⟩ : ByteArray) = ⟨(u ++ [d]).toArray⟩) := Lib.hid (by rw [HT.out]; exact HE.out HX.out)
            generalize (⟨(u ++ [d]).toArray⟩ : ByteArray) = b at *
            have g1 : ∀ h, b[u.length]'h = d := fun h => last_at HS.out h
            have e1 : (b.size : Int) - 1 = (u.length : Int) := by omega
            have l1 : (u.length : Int) < (b.size : Int) := by omega
            have l2 : u.length < b.size := by omega
            have he := HD.out
            clear hb HE
            go_wp2_with fail
            refine (HBL.out _).mono ?_
            rintro e w2 ⟨rfl, rfl⟩
            go_wp2_with fail
            go_ret
            exact ⟨by rw [HT2.out]; rfl, rfl⟩
    | cons c t' =>
      have g0 : ∀ h, (⟨(c :: t').toArray⟩ : ByteArray)[0]'h = c := fun _ => rfl
      have hsl := ext_tail c t'
      cases hb : blankB c with
      | true =>
        have HBL := Lib.hid (fun W => rBlank_is c W hb)
        have HT2 : Hid (trimLL s = trimLL t') := Lib.hid (by rw [HT.out, trimLL_cons, hb]; rfl)
        have hl2 : t'.length ≤ 1048576 := by simp at ht; omega
        clear hb ht
        go_wp2_with fail
        refine (HBL.out _).mono ?_
        rintro e w2 ⟨rfl, rfl⟩
        go_wp2_with fail
        exact ⟨⟨t', rfl, hl2, HT2⟩, Nat.lt_succ_self _⟩
      | false =>
        have HBL := Lib.hid (fun W => rBlank_is c W hb)
        have HT : Hid (trimLL s = c :: t') := Lib.hid (by rw [HT.out, trimLL_cons, hb]; rfl)
        have hl2 : (c :: t').length ≤ 1048576 := ht
        clear hb ht
        go_wp2_with fail
        refine (HBL.out _).mono ?_
        rintro e w2 ⟨rfl, rfl⟩
        clear g0 hsl
        go_wp2_with fail
        go_loop [0] (fun x => ∃ t : List UInt8, x = .string ⟨t.toArray⟩ ∧ t.length ≤ 1048576 ∧ Hid (trimBL s = trimRL t)) (fun x => strLenL x)
        case atStart => exact ⟨c :: t', rfl, hl2, Lib.hid (by unfold trimBL; rw [HT.out])⟩
        case round =>
          clear HT
          obtain ⟨t, rfl, ht, HT⟩ := hrel
          by_cases h0 : t = []
          · subst h0
            go_wp2_with fail
            go_ret
            exact ⟨by rw [HT.out]; rfl, rfl⟩
          · obtain ⟨u, d, rfl⟩ := snoc_of h0
            have HS := Lib.hid (strIs (u ++ [d]))
            have hsz : (⟨(u ++ [d]).toArray⟩ : ByteArray).size = u.length + 1 := by rw [HS.out.size]; simp
            have hul : u.length ≤ 1048575 := by simp at ht; omega
            have HD : Hid ((⟨(u ++ [d]).toArray⟩ : ByteArray).toList.isEmpty = false) := Lib.hid (by rw [Lib.toList_data]; simp)
            have HX := Lib.hid (trimRL_snoc u d)
            have HE : Hid (trimRL (u ++ [d]) = u ++ [d] → (⟨(trimRL (u ++ [d])).toArray⟩ : ByteArray) = ⟨(u ++ [d]).toArray⟩) := Lib.hid (fun h => by rw [h])
            clear ht h0
            cases hb : blankB d with
            | true =>
              rw [hb] at HX
              have HBL := Lib.hid (fun W => rBlank_is d W hb)
              have HT2 : Hid (trimBL s = trimRL u) := Lib.hid (by rw [HT.out, HX.out]; rfl)
              have hsl := ext_takeL HS.out u.length
              rw [List.take_left'  rfl] at hsl
              have HMS : Hid (strLenL (.string ⟨u.toArray⟩) < strLenL (.string ⟨(u ++ [d]).toArray⟩)) := Lib.hid (by show u.length < (u ++ [d]).length; simp)
              generalize (⟨(u ++ [d]).toArray⟩ : ByteArray) = b at *
              have g1 : ∀ h, b[u.length]'h = d := fun h => last_at HS.out h
              have e1 : (b.size : Int) - 1 = (u.length : Int) := by omega
              have l1 : (u.length : Int) < (b.size : Int) := by omega
              have l2 : u.length < b.size := by omega
              have l3 : u.length ≤ b.size := by omega
              have he := HD.out
              clear hb HE
              go_wp2_with fail
              refine (HBL.out _).mono ?_
              rintro e w2 ⟨rfl, rfl⟩
              go_wp2_with fail
              exact ⟨⟨u, rfl, by omega, HT2⟩, HMS.out⟩
            | false =>
              rw [hb] at HX
              have HBL := Lib.hid (fun W => rBlank_is d W hb)
              have HT2 : Hid ((⟨(trimBL s).toArray⟩ : ByteArray) = ⟨(u ++ [d]).toArray⟩) := Lib.hid (by rw [HT.out]; exact HE.out HX.out)
              generalize (⟨(u ++ [d]).toArray⟩ : ByteArray) = b at *
              have g1 : ∀ h, b[u.length]'h = d := fun h => last_at HS.out h
              have e1 : (b.size : Int) - 1 = (u.length : Int) := by omega
              have l1 : (u.length : Int) < (b.size : Int) := by omega
              have l2 : u.length < b.size := by omega
              have he := HD.out
              clear hb HE
              go_wp2_with fail
              refine (HBL.out _).mono ?_
              rintro e w2 ⟨rfl, rfl⟩
              go_wp2_with fail
              go_ret
              exact ⟨by rw [HT2.out]; rfl, rfl⟩
end Go.Proofs.YtjdfmmjadjggjaaDoor
