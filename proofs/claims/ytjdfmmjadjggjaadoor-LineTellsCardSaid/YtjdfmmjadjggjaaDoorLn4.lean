/- Contract: the reference's aside. -/
import Derived.Test.YtjdfmmjadjggjaaDoorLn3
namespace Go.Proofs.YtjdfmmjadjggjaaDoor
open Go.RowKit

theorem unesc_take_len (s : List UInt8) (i : Nat) (hl : s.length ≤ 1048576) : (unescL (s.take i)).length ≤ 1048576 := by
  have h := unescL_len _ (s.take i) (Nat.le_refl _)
  rw [List.length_take] at h
  omega
set_option maxRecDepth 100000 in
set_option maxHeartbeats 4000000 in
theorem rAside_any (s : List UInt8) (hl : s.length ≤ 1048576) (w : World) : Calls Tryd.prog 18 #[.string ⟨s.toArray⟩] w fun e w' => e = .returned (.string ⟨(asideL s).toArray⟩) ∧ w = w' := by
  have HS1 := Lib.hid (strIs s)
  have HUL := Lib.hid (fun i => unesc_take_len s i hl)
  generalize (⟨s.toArray⟩ : ByteArray) = b at *
  have hsz : b.size = s.length := HS1.out.size
  have HSZ := Lib.hid hsz
  have hbs : b.size ≤ 1048576 := by omega
  clear hsz hl
  go_enter Tryd.func18, Tryd.ntmps18
  go_wp2_with fail
  go_loop [3, 7] (fun y x => ∃ i : Nat, y = .string ⟨(unescL (s.take i)).toArray⟩ ∧ x = .int .i64 (i : Int) ∧ i ≤ b.size ∧ Hid (NoStop s i)) (fun _ x => b.size - (intOf x).toNat)
  case atStart => exact ⟨0, rfl, rfl, by omega, Lib.hid (fun j hj => by omega)⟩
  case round =>
    obtain ⟨i, rfl, rfl, hi, HNS⟩ := hrel
    by_cases hlt : i < b.size
    · obtain ⟨c, hc⟩ : ∃ c, c = b[i] := ⟨_, rfl⟩
      have g0 : ∀ h, b[i]'h = c := fun _ => hc.symm
      have HC : Hid (s[i]? = some c) := Lib.hid (by rw [hc]; exact HS1.out.at_ hlt)
      clear hc
      have i0 : (i : Int) < (b.size : Int) := by omega
      have i1 : (i : Int) + 1 ≤ (b.size : Int) := by omega
      have hsg := ext_one HS1.out HC.out
      have HTK := Lib.hid (take_snocL HC.out)
      have HI1 := Lib.hid (show i + 1 ≤ b.size from hlt)
      have HI2 := Lib.hid (measL hlt)
      have hTs : (⟨(unescL (s.take i)).toArray⟩ : ByteArray).size ≤ 1048576 := HUL.out i
      by_cases h35 : c = 35
      · have k35 : ((c.toNat : Int) == 35) = true := by rw [h35]; rfl
        have HC2 : Hid (s[i]? = some 35) := Lib.hid (by rw [HC.out, h35])
        by_cases h0 : i = 0
        · subst h0
          have HAS := Lib.hid (aside_of HNS.out (by omega) (.inr ⟨HC2.out, by simp⟩))
          clear h35 hsg
          go_wp2_with fail
          go_loop [3] (fun x => ∃ t : List UInt8, x = .string ⟨t.toArray⟩ ∧ t.length ≤ 1048576 ∧ Hid (asideL s = trimRL t)) (fun x => strLenL x)
          case atStart => exact ⟨unescL (s.take 0), rfl, HUL.out 0, HAS⟩
          case round =>
            obtain ⟨t, rfl, ht, HT⟩ := hrel
            by_cases h0 : t = []
            · subst h0
              go_wp2_with fail
              go_ret
              exact ⟨by rw [HT.out]; rfl, rfl⟩
            · obtain ⟨u, d, rfl⟩ := snoc_of h0
              have HS := Lib.hid (strIs (u ++ [d]))
              have hsz : (⟨(u ++ [d]).toArray⟩ : ByteArray).size = u.length + 1 := by rw [HS.out.size]; simp
              have hul : u.length ≤ 1048575 := by simp at ht; omega
              have HD : Hid ((⟨(u ++ [d]).toArray⟩ : ByteArray).toList.isEmpty = false) := Lib.hid (by rw [Lib.toList_data]; simp)
              have HX := Lib.hid (trimRL_snoc u d)
              have HE : Hid (trimRL (u ++ [d]) = u ++ [d] → (⟨(trimRL (u ++ [d])).toArray⟩ : ByteArray) = ⟨(u ++ [d]).toArray⟩) := Lib.hid (fun h => by rw [h])
              clear ht h0
              cases hb : blankB d with
              | true =>
                rw [hb] at HX
                have HBL := Lib.hid (fun W => rBlank_is d W hb)
                have HT2 : Hid (asideL s = trimRL u) := Lib.hid (by rw [HT.out, HX.out]; rfl)
                have hsl := ext_takeL HS.out u.length
                rw [List.take_left'  rfl] at hsl
                have HMS : Hid (strLenL (.string ⟨u.toArray⟩) < strLenL (.string ⟨(u ++ [d]).toArray⟩)) := Lib.hid (by show u.length < (u ++ [d]).length; simp)
                generalize (⟨(u ++ [d]).toArray⟩ : ByteArray) = bz at *
                have g1 : ∀ h, bz[u.length]'h = d := fun h => last_at HS.out h
                have e1 : (bz.size : Int) - 1 = (u.length : Int) := by omega
                have l1 : (u.length : Int) < (bz.size : Int) := by omega
                have l2 : u.length < bz.size := by omega
                have l3 : u.length ≤ bz.size := by omega
                have he := HD.out
                clear hb HE
                go_wp2_with fail
                refine (HBL.out _).mono ?_
                rintro e w2 ⟨rfl, rfl⟩
                go_wp2_with fail
                exact ⟨⟨u, rfl, by omega, HT2⟩, HMS.out⟩
              | false =>
                rw [hb] at HX
                have HBL := Lib.hid (fun W => rBlank_is d W hb)
                have HT2 : Hid ((⟨(asideL s).toArray⟩ : ByteArray) = ⟨(u ++ [d]).toArray⟩) := Lib.hid (by rw [HT.out]; exact HE.out HX.out)
                generalize (⟨(u ++ [d]).toArray⟩ : ByteArray) = bz at *
                have g1 : ∀ h, bz[u.length]'h = d := fun h => last_at HS.out h
                have e1 : (bz.size : Int) - 1 = (u.length : Int) := by omega
                have l1 : (u.length : Int) < (bz.size : Int) := by omega
                have l2 : u.length < bz.size := by omega
                have he := HD.out
                clear hb HE
                go_wp2_with fail
                refine (HBL.out _).mono ?_
                rintro e w2 ⟨rfl, rfl⟩
                go_wp2_with fail
                go_ret
                exact ⟨by rw [HT2.out]; rfl, rfl⟩
        · have hi1 : i - 1 < b.size := by omega
          obtain ⟨pc, hpc⟩ : ∃ c, c = b[i - 1] := ⟨_, rfl⟩
          have g1 : ∀ h, b[i - 1]'h = pc := fun _ => hpc.symm
          have HP : Hid (s[i - 1]? = some pc) := Lib.hid (by rw [hpc]; exact HS1.out.at_ hi1)
          clear hpc
          have e1 : (i : Int) - 1 = ((i - 1 : Nat) : Int) := by omega
          have k0 : ((i : Int) == 0) = false := by simp; omega
          by_cases h92 : pc = 92
          · have k92 : ((pc.toNat : Int) != 92) = false := by rw [h92]; rfl
            have HNS2 := Lib.hid (HNS.out.succ (fun hh => hh.2 (by rw [if_neg h0, HP.out, h92])))
            have hU : unescL (s.take i) = unescL (s.take (i - 1)) ++ [92] := by
              have e : s.take i = s.take (i - 1) ++ [92] := by
                have := take_snocL HP.out
                rw [show i - 1 + 1 = i by omega, h92] at this
                exact this
              rw [e, unescL_snoc, if_neg (fun hh => absurd hh.1 (by decide))]
            have hU2 : unescL (s.take (i + 1)) = unescL (s.take (i - 1)) ++ [35] := by
              have hg : (s.take i).getLast? = some 92 := by
                have := take_snocL HP.out
                rw [show i - 1 + 1 = i by omega, h92] at this
                rw [this]; simp
              rw [HTK.out, h35, unescL_snoc, if_pos ⟨rfl, hg⟩, hU]
              simp
            have HVS := Lib.hid (strIs (unescL (s.take (i - 1)) ++ [92]))
            rw [hU] at hTs ⊢
            have hsz2 : (⟨(unescL (s.take (i - 1)) ++ [92]).toArray⟩ : ByteArray).size = (unescL (s.take (i - 1))).length + 1 := by rw [HVS.out.size]; simp
            have hsl := ext_takeL HVS.out (unescL (s.take (i - 1))).length
            rw [List.take_left' rfl] at hsl
            have hcat := Lib.hid (show (⟨(unescL (s.take (i - 1))).toArray⟩ : ByteArray) ++ ⟨#[c]⟩ = ⟨(unescL (s.take (i + 1))).toArray⟩ by
              rw [hU2, h35]
              exact cat_bytesL _ [35])
            have hvl : (⟨(unescL (s.take (i - 1))).toArray⟩ : ByteArray).size = (unescL (s.take (i - 1))).length := rfl
            generalize (unescL (s.take (i - 1))).length = vl at *
            generalize (⟨(unescL (s.take (i - 1)) ++ [92]).toArray⟩ : ByteArray) = BT at *
            generalize (⟨(unescL (s.take (i - 1))).toArray⟩ : ByteArray) = BV at *
            have e2 : (BT.size : Int) - 1 = (vl : Int) := by omega
            have l3 : vl ≤ BT.size := by omega
            have hvs : BV.size ≤ 1048576 := by omega
            clear h35 h92 hU hU2 hvl hsz2
            go_wp2_with fail
            exact ⟨⟨i + 1, congrArg Value.string hcat.out, rfl, HI1.out, HNS2⟩, HI2.out⟩
          · have k92 : ((pc.toNat : Int) != 92) = true := neK h92
            have HAS := Lib.hid (aside_of HNS.out (by rw [← HSZ.out]; omega) (.inr ⟨HC2.out, by rw [if_neg h0, HP.out]; exact fun e => h92 (by injection e)⟩))
            clear h35 h92 hsg
            go_wp2_with fail
            go_loop [3] (fun x => ∃ t : List UInt8, x = .string ⟨t.toArray⟩ ∧ t.length ≤ 1048576 ∧ Hid (asideL s = trimRL t)) (fun x => strLenL x)
            case atStart => exact ⟨unescL (s.take i), rfl, HUL.out i, HAS⟩
            case round =>
              obtain ⟨t, rfl, ht, HT⟩ := hrel
              by_cases h0 : t = []
              · subst h0
                go_wp2_with fail
                go_ret
                exact ⟨by rw [HT.out]; rfl, rfl⟩
              · obtain ⟨u, d, rfl⟩ := snoc_of h0
                have HS := Lib.hid (strIs (u ++ [d]))
                have hsz : (⟨(u ++ [d]).toArray⟩ : ByteArray).size = u.length + 1 := by rw [HS.out.size]; simp
                have hul : u.length ≤ 1048575 := by simp at ht; omega
                have HD : Hid ((⟨(u ++ [d]).toArray⟩ : ByteArray).toList.isEmpty = false) := Lib.hid (by rw [Lib.toList_data]; simp)
                have HX := Lib.hid (trimRL_snoc u d)
                have HE : Hid (trimRL (u ++ [d]) = u ++ [d] → (⟨(trimRL (u ++ [d])).toArray⟩ : ByteArray) = ⟨(u ++ [d]).toArray⟩) := Lib.hid (fun h => by rw [h])
                clear ht h0
                cases hb : blankB d with
                | true =>
                  rw [hb] at HX
                  have HBL := Lib.hid (fun W => rBlank_is d W hb)
                  have HT2 : Hid (asideL s = trimRL u) := Lib.hid (by rw [HT.out, HX.out]; rfl)
                  have hsl := ext_takeL HS.out u.length
                  rw [List.take_left'  rfl] at hsl
                  have HMS : Hid (strLenL (.string ⟨u.toArray⟩) < strLenL (.string ⟨(u ++ [d]).toArray⟩)) := Lib.hid (by show u.length < (u ++ [d]).length; simp)
                  generalize (⟨(u ++ [d]).toArray⟩ : ByteArray) = bz at *
                  have g1 : ∀ h, bz[u.length]'h = d := fun h => last_at HS.out h
                  have e1 : (bz.size : Int) - 1 = (u.length : Int) := by omega
                  have l1 : (u.length : Int) < (bz.size : Int) := by omega
                  have l2 : u.length < bz.size := by omega
                  have l3 : u.length ≤ bz.size := by omega
                  have he := HD.out
                  clear hb HE
                  go_wp2_with fail
                  refine (HBL.out _).mono ?_
                  rintro e w2 ⟨rfl, rfl⟩
                  go_wp2_with fail
                  exact ⟨⟨u, rfl, by omega, HT2⟩, HMS.out⟩
                | false =>
                  rw [hb] at HX
                  have HBL := Lib.hid (fun W => rBlank_is d W hb)
                  have HT2 : Hid ((⟨(asideL s).toArray⟩ : ByteArray) = ⟨(u ++ [d]).toArray⟩) := Lib.hid (by rw [HT.out]; exact HE.out HX.out)
                  generalize (⟨(u ++ [d]).toArray⟩ : ByteArray) = bz at *
                  have g1 : ∀ h, bz[u.length]'h = d := fun h => last_at HS.out h
                  have e1 : (bz.size : Int) - 1 = (u.length : Int) := by omega
                  have l1 : (u.length : Int) < (bz.size : Int) := by omega
                  have l2 : u.length < bz.size := by omega
                  have he := HD.out
                  clear hb HE
                  go_wp2_with fail
                  refine (HBL.out _).mono ?_
                  rintro e w2 ⟨rfl, rfl⟩
                  go_wp2_with fail
                  go_ret
                  exact ⟨by rw [HT2.out]; rfl, rfl⟩
      · have k35 : ((c.toNat : Int) == 35) = false := eqK h35
        have HNS2 := Lib.hid (HNS.out.succ (fun hh => h35 (by have := hh.1; rw [HC.out] at this; injection this)))
        have hcat := Lib.hid (show (⟨(unescL (s.take i)).toArray⟩ : ByteArray) ++ ⟨#[c]⟩ = ⟨(unescL (s.take (i + 1))).toArray⟩ by
          rw [HTK.out, unescL_snoc, if_neg (fun hh => h35 hh.1)]
          exact cat_bytesL _ [c])
        generalize (⟨(unescL (s.take i)).toArray⟩ : ByteArray) = BT at *
        clear h35
        go_wp2_with fail
        exact ⟨⟨i + 1, congrArg Value.string hcat.out, rfl, HI1.out, HNS2⟩, HI2.out⟩
    · obtain rfl : i = b.size := by omega
      have HAS := Lib.hid (aside_of HNS.out (by rw [HSZ.out]; exact Nat.le_refl _) (.inl HSZ.out))
      go_wp2_with fail
      go_loop [3] (fun x => ∃ t : List UInt8, x = .string ⟨t.toArray⟩ ∧ t.length ≤ 1048576 ∧ Hid (asideL s = trimRL t)) (fun x => strLenL x)
      case atStart => exact ⟨unescL (s.take b.size), rfl, HUL.out b.size, HAS⟩
      case round =>
        obtain ⟨t, rfl, ht, HT⟩ := hrel
        by_cases h0 : t = []
        · subst h0
          go_wp2_with fail
          go_ret
          exact ⟨by rw [HT.out]; rfl, rfl⟩
        · obtain ⟨u, d, rfl⟩ := snoc_of h0
          have HS := Lib.hid (strIs (u ++ [d]))
          have hsz : (⟨(u ++ [d]).toArray⟩ : ByteArray).size = u.length + 1 := by rw [HS.out.size]; simp
          have hul : u.length ≤ 1048575 := by simp at ht; omega
          have HD : Hid ((⟨(u ++ [d]).toArray⟩ : ByteArray).toList.isEmpty = false) := Lib.hid (by rw [Lib.toList_data]; simp)
          have HX := Lib.hid (trimRL_snoc u d)
          have HE : Hid (trimRL (u ++ [d]) = u ++ [d] → (⟨(trimRL (u ++ [d])).toArray⟩ : ByteArray) = ⟨(u ++ [d]).toArray⟩) := Lib.hid (fun h => by rw [h])
          clear ht h0
          cases hb : blankB d with
          | true =>
            rw [hb] at HX
            have HBL := Lib.hid (fun W => rBlank_is d W hb)
            have HT2 : Hid (asideL s = trimRL u) := Lib.hid (by rw [HT.out, HX.out]; rfl)
            have hsl := ext_takeL HS.out u.length
            rw [List.take_left'  rfl] at hsl
            have HMS : Hid (strLenL (.string ⟨u.toArray⟩) < strLenL (.string ⟨(u ++ [d]).toArray⟩)) := Lib.hid (by show u.length < (u ++ [d]).length; simp)
            generalize (⟨(u ++ [d]).toArray⟩ : ByteArray) = bz at *
            have g1 : ∀ h, bz[u.length]'h = d := fun h => last_at HS.out h
            have e1 : (bz.size : Int) - 1 = (u.length : Int) := by omega
            have l1 : (u.length : Int) < (bz.size : Int) := by omega
            have l2 : u.length < bz.size := by omega
            have l3 : u.length ≤ bz.size := by omega
            have he := HD.out
            clear hb HE
            go_wp2_with fail
            refine (HBL.out _).mono ?_
            rintro e w2 ⟨rfl, rfl⟩
            go_wp2_with fail
            exact ⟨⟨u, rfl, by omega, HT2⟩, HMS.out⟩
          | false =>
            rw [hb] at HX
            have HBL := Lib.hid (fun W => rBlank_is d W hb)
            have HT2 : Hid ((⟨(asideL s).toArray⟩ : ByteArray) = ⟨(u ++ [d]).toArray⟩) := Lib.hid (by rw [HT.out]; exact HE.out HX.out)
            generalize (⟨(u ++ [d]).toArray⟩ : ByteArray) = bz at *
            have g1 : ∀ h, bz[u.length]'h = d := fun h => last_at HS.out h
            have e1 : (bz.size : Int) - 1 = (u.length : Int) := by omega
            have l1 : (u.length : Int) < (bz.size : Int) := by omega
            have l2 : u.length < bz.size := by omega
            have he := HD.out
            clear hb HE
            go_wp2_with fail
            refine (HBL.out _).mono ?_
            rintro e w2 ⟨rfl, rfl⟩
            go_wp2_with fail
            go_ret
            exact ⟨by rw [HT2.out]; rfl, rfl⟩
end Go.Proofs.YtjdfmmjadjggjaaDoor
