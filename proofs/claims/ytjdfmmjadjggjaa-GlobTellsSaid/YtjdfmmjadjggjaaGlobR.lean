/- Contract: glob.Plain. -/
import Derived.Test.YtjdfmmjadjggjaaGlobQ
namespace Go.Proofs.Ytjdfmmjadjggjaa
open Go.RowKit

/-- The plain text of a pattern, if it has one. -/
def plnG (p : List UInt8) : Option (List UInt8) := if errG p = 0 then plainG p else none
theorem some_parse {c : UInt8} {t : List UInt8} (h : (parseG (c :: t)).isSome = true) : ∃ x, stepG c t = some x ∧ (parseG x.2).isSome = true := by
  cases hs : stepG c t with
  | none => rw [parseG_no hs] at h; cases h
  | some x =>
    refine ⟨x, rfl, ?_⟩
    rw [parseG_yes hs] at h
    simpa using h
theorem drop_cons {s : List UInt8} {i : Nat} {c : UInt8} (h : s[i]? = some c) : s.drop i = c :: s.drop (i + 1) := by
  obtain ⟨hi, hx⟩ := List.getElem?_eq_some_iff.1 h
  rw [List.drop_eq_getElem_cons hi, hx]
theorem plain_map {s r : List UInt8} {T : List UInt8} {c : UInt8} {t : List UInt8} (h : plainG s = (plainG (c :: t)).map (T ++ ·)) {d : UInt8} (hs : plainG (c :: t) = (plainG r).map (d :: ·)) : plainG s = (plainG r).map ((T ++ [d]) ++ ·) := by
  rw [h, hs, Option.map_map]
  congr 1
  funext x
  simp
set_option maxRecDepth 100000 in
set_option maxHeartbeats 2000000 in
theorem glPlain_any (s : List UInt8) (hl : s.length ≤ 9223372036854775807) (w : World) :
    Calls Try.prog 8 #[.string ⟨s.toArray⟩] w fun e w' => e = .returned (.tuple #[.string ⟨((plnG s).getD []).toArray⟩, .bool (plnG s).isSome]) ∧ Below w.heap.size w w' := by
  have HC := Lib.hid (pcCheck_any s (by omega) w)
  have HS := Lib.hid (strIs s)
  generalize (⟨s.toArray⟩ : ByteArray) = b at *
  have hsz : b.size = s.length := HS.out.size
  have HSZ := Lib.hid hsz
  clear hsz hl
  by_cases he : errG s = 0
  · have hbs : b.size ≤ 60 := by
      rw [HSZ.out]
      unfold errG at he
      split at he
      · cases he
      · omega
    have HPS : Hid ((parseG s).isSome = true) := Lib.hid (by
      unfold errG at he
      split at he
      · cases he
      · split at he
        · cases he
        · rename_i h; cases hq : parseG s with
          | none => rw [hq] at h; exact absurd rfl h
          | some x => rfl)
    have HE := Lib.hid he
    rw [he] at HC
    clear he
    go_enter Try.func8, Try.ntmps8
    go_wp2_with fail
    refine HC.out.mono ?_
    rintro e w1 ⟨rfl, hb1⟩
    have HBI := Lib.hid (bldInit w1)
    have HB := Lib.hid (below_new hb1 (.cells #[.pointer none, .slice none 0 0] 77))
    have HW1 := Lib.hid hb1.size
    clear hb1
    go_upto_region 4 with fail
    have hsz1 := HB.out.size
    have HBsz : Hid (w1.heap.size ≤ (w1.alloc (.cells #[.pointer none, .slice none 0 0] 77)).heap.size) := Lib.hid (by simp)
    generalize w1.alloc (.cells #[.pointer none, .slice none 0 0] 77) = w2 at *
    clear hsz1
    go_wp2_with fail
    go_loopw [5] (fun x wr => ∃ (i : Nat) (T : List UInt8), x = .int .i64 (i : Int) ∧ i ≤ b.size ∧ T.length ≤ i ∧ Hid ((parseG (s.drop i)).isSome = true) ∧ Hid (plainG s = (plainG (s.drop i)).map (T ++ ·)) ∧ Hid (Lib.IsBuilder 77 5 w1.heap.size w1.heap.size (Lib.byteCells T) wr) ∧ Hid (w1.heap.size ≤ wr.heap.size) ∧ Hid (Below w.heap.size w wr)) (fun x _ => b.size - (intOf x).toNat)
    case atStart => exact ⟨0, [], rfl, by omega, by simp, HPS, Lib.hid (by simp), HBI, HBsz, HB⟩
    case round =>
      clear HBI HB HBsz HPS
      obtain ⟨i, T, rfl, hi, hT, HPS, HPL, HBI, HBsz, HBW⟩ := hrel
      by_cases hlt : i < b.size
      · have HDC := Lib.hid (drop_cons (HS.out.at_ hlt))
        have HPS2 : Hid ((parseG (b[i] :: s.drop (i + 1))).isSome = true) := Lib.hid (by rw [← HDC.out]; exact HPS.out)
        have HPL2 : Hid (plainG s = (plainG (b[i] :: s.drop (i + 1))).map (T ++ ·)) := Lib.hid (by rw [← HDC.out]; exact HPL.out)
        clear HPS HPL
        have i0 : (i : Int) < (b.size : Int) := by omega
        by_cases h42 : b[i] = 42 ∨ b[i] = 63 ∨ b[i] = 91
        · have HNO : Hid (plnG s = none) := Lib.hid (by
            unfold plnG
            rw [if_pos HE.out, HPL2.out, plainG_cons, if_pos h42]
            rfl)
          have hk : ((b[i]).toNat : Int) = 42 ∨ ((b[i]).toNat : Int) = 63 ∨ ((b[i]).toNat : Int) = 91 := by
            rcases h42 with h | h | h <;> rw [h]
            · exact .inl rfl
            · exact .inr (.inl rfl)
            · exact .inr (.inr rfl)
          clear h42
          have HBB := Lib.hid HBW.out
          rcases hk with hk | hk | hk
          · have k1 : (((b[i]).toNat : Int) == 42) = true := by rw [hk]; rfl
            clear hk
            go_wp2_with fail
            go_ret2
            exact ⟨by rw [HNO.out]; rfl, HBB.out⟩
          · have k1 : (((b[i]).toNat : Int) == 42) = false := by rw [hk]; rfl
            have k2 : (((b[i]).toNat : Int) == 63) = true := by rw [hk]; rfl
            clear hk
            go_wp2_with fail
            go_ret2
            exact ⟨by rw [HNO.out]; rfl, HBB.out⟩
          · have k1 : (((b[i]).toNat : Int) == 42) = false := by rw [hk]; rfl
            have k2 : (((b[i]).toNat : Int) == 63) = false := by rw [hk]; rfl
            have k3 : (((b[i]).toNat : Int) == 91) = true := by rw [hk]; rfl
            clear hk
            go_wp2_with fail
            go_ret2
            exact ⟨by rw [HNO.out]; rfl, HBB.out⟩
        · have H42 := Lib.hid h42
          have nk : ∀ n : UInt8, b[i] ≠ n → (((b[i]).toNat : Int) == (n.toNat : Int)) = false := fun n h => by
            have : (b[i]).toNat ≠ n.toNat := fun e => h (UInt8.toNat_inj.1 e)
            simp
            omega
          have k1 : (((b[i]).toNat : Int) == 42) = false := nk 42 (fun e => h42 (.inl e))
          have k2 : (((b[i]).toNat : Int) == 63) = false := nk 63 (fun e => h42 (.inr (.inl e)))
          have k3 : (((b[i]).toNat : Int) == 91) = false := nk 91 (fun e => h42 (.inr (.inr e)))
          clear h42
          by_cases h92 : b[i] = 92
          · have HPS3 := HPS2.out
            have HPL3 := HPL2.out
            rw [h92] at HPS3 HPL3
            have k4 : (((b[i]).toNat : Int) == 92) = true := by rw [h92]; rfl
            clear h92 nk HPS2 HPL2 H42
            obtain ⟨d, hd⟩ : ∃ d, s[i + 1]? = some d := by
              cases hq : s[i + 1]? with
              | some d => exact ⟨d, rfl⟩
              | none =>
                rw [List.drop_of_length_le (by rw [List.getElem?_eq_none_iff] at hq; exact hq)] at HPS3
                rw [parseG_no (rfl : stepG 92 [] = none)] at HPS3
                cases HPS3
            have hi2 : i + 1 < b.size := by rw [HSZ.out]; exact (List.getElem?_eq_some_iff.1 hd).1
            have hbd := HS.out.at_ hi2
            have HPS4 : Hid ((parseG (s.drop (i + 1 + 1))).isSome = true) := Lib.hid (by
              rw [drop_cons hbd] at HPS3
              rw [parseG_yes (rfl : stepG 92 (b[i + 1] :: s.drop (i + 1 + 1)) = some (⟨⟨false, oneS b[i + 1]⟩, (b[i + 1]).toNat⟩, s.drop (i + 1 + 1)))] at HPS3
              simpa using HPS3)
            have HPL4 : Hid (plainG s = (plainG (s.drop (i + 1 + 1))).map ((T ++ [b[i + 1]]) ++ ·)) := Lib.hid (plain_map HPL3 (by
              rw [drop_cons hbd]
              rfl))
            clear HPS3 HPL3 hd hbd
            have i1 : (i : Int) + 1 < (b.size : Int) := by omega
            go_wp2_with fail
            refine (bldByte w1.heap.size w1.heap.size T b[i + 1] wr HBI.out (by omega) HBsz.out).mono ?_
            rintro e w5 ⟨rfl, hbi5, hb5⟩
            have HI5 := Lib.hid hbi5
            have HZ5 := Lib.hid (Nat.le_trans HBsz.out hb5.size)
            have HB5 := Lib.hid (HBW.out.trans (hb5.mono HW1.out))
            clear hbi5 hb5
            go_wp2_with fail
            exact ⟨⟨i + 1 + 1, T ++ [b[i + 1]], rfl, by omega, by simp; omega, HPS4, HPL4, HI5, HZ5, HB5⟩, by simp only [intOf]; omega⟩
          · have k4 : (((b[i]).toNat : Int) == 92) = false := nk 92 h92
            have HPS4 : Hid ((parseG (s.drop (i + 1))).isSome = true) := Lib.hid (by
              obtain ⟨x, hx, hp⟩ := some_parse HPS2.out
              have e : stepG b[i] (s.drop (i + 1)) = if b[i] = 93 then none else some (⟨⟨false, oneS b[i]⟩, (b[i]).toNat⟩, s.drop (i + 1)) := by
                have h := H42.out
                unfold stepG
                rw [if_neg (fun e => h (.inl e)), if_neg (fun e => h (.inr (.inl e))), if_neg (fun e => h (.inr (.inr e))), if_neg h92]
              rw [e] at hx
              split at hx
              · cases hx
              · injection hx with hx
                subst hx
                exact hp)
            have HPL4 : Hid (plainG s = (plainG (s.drop (i + 1))).map ((T ++ [b[i]]) ++ ·)) := Lib.hid (plain_map HPL2.out (by rw [plainG_cons, if_neg H42.out, if_neg h92]))
            clear HPS2 HPL2 h92 nk H42
            go_wp2_with fail
            refine (bldByte w1.heap.size w1.heap.size T b[i] wr HBI.out (by omega) HBsz.out).mono ?_
            rintro e w5 ⟨rfl, hbi5, hb5⟩
            have HI5 := Lib.hid hbi5
            have HZ5 := Lib.hid (Nat.le_trans HBsz.out hb5.size)
            have HB5 := Lib.hid (HBW.out.trans (hb5.mono HW1.out))
            clear hbi5 hb5
            go_wp2_with fail
            exact ⟨⟨i + 1, T ++ [b[i]], rfl, by omega, by simp; omega, HPS4, HPL4, HI5, HZ5, HB5⟩, by simp only [intOf]; omega⟩
      · obtain rfl : i = b.size := by omega
        have HQ : Hid (plnG s = some T) := Lib.hid (by
          unfold plnG
          rw [if_pos HE.out, HPL.out, List.drop_of_length_le (by rw [HSZ.out]; exact Nat.le_refl _)]
          simp [plainG])
        go_wp2_with fail
        refine (Try.Builder_String_any w1.heap.size w1.heap.size T wr HBI.out HBsz.out).mono ?_
        rintro e w3 ⟨rfl, hb3⟩
        have HB3 := Lib.hid (HBW.out.trans (hb3.mono HW1.out))
        clear hb3
        go_wp2_with fail
        go_ret2
        exact ⟨by rw [HQ.out]; rfl, HB3.out⟩
  · have HQ : Hid (plnG s = none) := Lib.hid (by unfold plnG; rw [if_neg he])
    have hn0 : ((errG s : Int) != 0) = true := by simp; omega
    clear he
    go_enter Try.func8, Try.ntmps8
    go_wp2_with fail
    refine HC.out.mono ?_
    rintro e w1 ⟨rfl, hb1⟩
    have HB1 := Lib.hid hb1
    clear hb1
    go_wp2_with fail
    go_ret2
    exact ⟨by rw [HQ.out]; rfl, HB1.out⟩
end Go.Proofs.Ytjdfmmjadjggjaa
