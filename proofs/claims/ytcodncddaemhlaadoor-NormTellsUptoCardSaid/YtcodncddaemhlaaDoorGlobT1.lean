/- Contracts: the reference's items and its closure. -/
import Derived.Test.YtcodncddaemhlaaDoorGlobT0
namespace Go.Proofs.YtcodncddaemhlaaDoor
open Go.RowKit

theorem drop_consT {s : List UInt8} {i : Nat} {c : UInt8} (h : s[i]? = some c) : s.drop i = c :: s.drop (i + 1) := by
  obtain ⟨hi, hx⟩ := List.getElem?_eq_some_iff.1 h
  rw [List.drop_eq_getElem_cons hi, hx]
theorem wrap_byte (c : UInt8) : wrap64 ((c.toNat : Nat) : Int) = ((c.toNat : Nat) : Int) := by
  have := c.toNat_lt
  unfold wrap64
  omega
theorem neK {c n : UInt8} (h : c ≠ n) : (((c.toNat : Nat) : Int) != ((n.toNat : Nat) : Int)) = true := by
  have : c.toNat ≠ n.toNat := fun e => h (UInt8.toNat_inj.1 e)
  simp
  omega
theorem oddC_five {c : UInt8} (h1 : c ≠ 91) (h2 : c ≠ 93) (h3 : c ≠ 92) (h4 : c ≠ 45) (h5 : c ≠ 33) : oddC c = false := by
  unfold oddC
  simp [h1, h2, h3, h4, h5]
set_option maxRecDepth 100000 in
theorem rPlain_any (c : UInt8) (w : World) : Calls Tryd.prog 95 #[.int .u8 (c.toNat : Int)] w fun e w' => e = .returned (.bool (!oddC c)) ∧ w = w' := by
  by_cases h91 : c = 91
  · subst h91
    have n91 : (((91 : UInt8).toNat : Int) != 91) = false := rfl
    go_enter Tryd.func95, Tryd.ntmps95
    go_wp2_with fail
    go_ret
    exact ⟨rfl, rfl⟩
  · have n91 : ((c.toNat : Int) != 91) = true := neK h91
    by_cases h93 : c = 93
    · subst h93
      have n93 : (((93 : UInt8).toNat : Int) != 93) = false := rfl
      go_enter Tryd.func95, Tryd.ntmps95
      go_wp2_with fail
      go_ret
      exact ⟨rfl, rfl⟩
    · have n93 : ((c.toNat : Int) != 93) = true := neK h93
      by_cases h92 : c = 92
      · subst h92
        have n92 : (((92 : UInt8).toNat : Int) != 92) = false := rfl
        go_enter Tryd.func95, Tryd.ntmps95
        go_wp2_with fail
        go_ret
        exact ⟨rfl, rfl⟩
      · have n92 : ((c.toNat : Int) != 92) = true := neK h92
        by_cases h45 : c = 45
        · subst h45
          have n45 : (((45 : UInt8).toNat : Int) != 45) = false := rfl
          go_enter Tryd.func95, Tryd.ntmps95
          go_wp2_with fail
          go_ret
          exact ⟨rfl, rfl⟩
        · have n45 : ((c.toNat : Int) != 45) = true := neK h45
          by_cases h33 : c = 33
          · subst h33
            have n33 : (((33 : UInt8).toNat : Int) != 33) = false := rfl
            go_enter Tryd.func95, Tryd.ntmps95
            go_wp2_with fail
            go_ret
            exact ⟨rfl, rfl⟩
          · have n33 : ((c.toNat : Int) != 33) = true := neK h33
            have HO := Lib.hid (oddC_five h91 h93 h92 h45 h33)
            clear h91 h93 h92 h45 h33
            go_enter Tryd.func95, Tryd.ntmps95
            go_wp2_with fail
            go_ret
            exact ⟨ret_bool (by rw [HO.out]; rfl), rfl⟩
theorem rPlain_is (c : UInt8) (w : World) {v : Bool} (h : oddC c = v) : Calls Tryd.prog 95 #[.int .u8 (c.toNat : Int)] w fun e w' => e = .returned (.bool (!v)) ∧ w = w' := by
  subst h
  exact rPlain_any c w
theorem putS_up (S : Nat → Bool) (a : UInt8) {c : Nat} (h : a.toNat ≤ c) (d : Nat) : putS (upS S a c) c true d = upS S a (c + 1) d := by
  rw [← upS_succ S a h d]
  unfold putS
  by_cases hd : d = c
  · simp [hd]
  · have : (d == c) = false := by simp [hd]
    rw [if_neg hd, this, Bool.or_false]
/-- The first j bytes of a set turned. -/
def trnS (S : Nat → Bool) (j : Nat) : Nat → Bool := fun d => if d < j then !S d else S d
theorem trnS_zero (S : Nat → Bool) : trnS S 0 = S := by funext d; simp [trnS]
theorem trnS_at (S : Nat → Bool) (j : Nat) : trnS S j j = S j := by simp [trnS]
theorem trnS_put (S : Nat → Bool) (j d : Nat) : putS (trnS S j) j (!S j) d = trnS S (j + 1) d := by
  unfold putS trnS
  by_cases hd : d = j
  · subst hd; simp
  · rw [if_neg hd]
    by_cases h2 : d < j
    · rw [if_pos h2, if_pos (by omega)]
    · rw [if_neg h2, if_neg (by omega)]
theorem trnS_end (S : Nat → Bool) {c : Nat} (h : c < 256) : trnS S 256 c = turnS S c := by simp [trnS, turnS, h]
theorem items_step {S : Nat → Bool} {a b : UInt8} {t r : List UInt8} (hit : itemG a t = (b, r)) : itemsR S (a :: t) = if oddC a || oddC b || decide (b < a) then none else itemsR (addS S a b) r := by rw [itemsR, hit]
/-- The set that a text between brackets tells. -/
def itmG (s : List UInt8) : Option (Nat → Bool) := if behB s = [] then none else (itemsR noS (behB s)).map (setB s)
theorem itemG_plain {a : UInt8} {t : List UInt8} {i : Nat} (h : ∀ y r, t.drop i = 45 :: y :: r → False) : itemG a (t.drop i) = (a, t.drop i) := by
  generalize t.drop i = q at h ⊢
  match q with
  | [] => rfl
  | [x] => exact itemG_one a x
  | x :: y :: r =>
    by_cases hx : x = 45
    · subst hx; exact (h y r rfl).elim
    · exact itemG_other a x _ hx
def ItmPost (B bx : Nat) (s : List UInt8) (w : World) (e : Ending) (w' : World) : Prop :=
  Below B w w' ∧ ((itmG s = none ∧ e = .returned (.bool false)) ∨ ∃ S, itmG s = some S ∧ e = .returned (.bool true) ∧ Blk w' bx 110 (rpL false S (-1)))
set_option maxRecDepth 100000 in
set_option maxHeartbeats 4000000 in
theorem rItems_any (B bx : Nat) (hB : B ≤ bx) (s : List UInt8) (hs : s.length ≤ 100) (w : World) (hblk : Blk w bx 110 (rpL false noS (-1))) :
    Calls Tryd.prog 77 #[.pointer (some ⟨bx, 0, none⟩), .string ⟨s.toArray⟩] w (ItmPost B bx s w) := by
  have HBK := Lib.hid hblk
  clear hblk
  cases s with
  | nil =>
    have HN : Hid (itmG [] = none) := Lib.hid rfl
    go_enter Tryd.func77, Tryd.ntmps77
    go_wp2_with fail
    go_ret
    exact ⟨Below.refl _ _, .inl ⟨HN.out, rfl⟩⟩
  | cons a t =>
    have g0 : ∀ h, (⟨(a :: t).toArray⟩ : ByteArray)[0]'h = a := fun _ => rfl
    by_cases ha : a = 33
    · subst ha
      have n0 : (((33 : UInt8).toNat : Int) == 33) = true := rfl
      have hsl := ext_tail 33 t
      have HSB : Hid (setB (33 :: t) = turnS) := Lib.hid rfl
      cases t with
      | nil =>
        have HN : Hid (itmG [33] = none) := Lib.hid rfl
        have hsl2 : (⟨#[33]⟩ : ByteArray).extract 1 1 = ⟨#[]⟩ := hsl
        clear hsl
        go_enter Tryd.func77, Tryd.ntmps77
        go_wp2_with fail
        go_ret
        exact ⟨Below.refl _ _, .inl ⟨HN.out, rfl⟩⟩
      | cons a2 t2 =>
        have hsl2 : (⟨(33 :: a2 :: t2).toArray⟩ : ByteArray).extract 1 (t2.length + 1 + 1) = ⟨(a2 :: t2).toArray⟩ := hsl
        have HIG : Hid (itmG (33 :: a2 :: t2) = (itemsR noS (a2 :: t2)).map turnS) := Lib.hid rfl
        clear hsl
        go_enter Tryd.func77, Tryd.ntmps77
        go_upto_region 6 with fail
        clear g0 n0 hsl2
        have hql : (a2 :: t2).length ≤ 100 := by simp at hs ⊢; omega
        clear hs
        generalize hq : a2 :: t2 = q at *
        have HS := Lib.hid (strIs q)
        generalize (⟨q.toArray⟩ : ByteArray) = b at *
        have HSZ := Lib.hid HS.out.size
        have hbs : b.size ≤ 100 := by rw [HSZ.out]; exact hql
        clear hq hql
        go_wp2_with fail
        go_loopw [7] (fun x wr => ∃ (i : Nat) (S : Nat → Bool), x = .int .i64 (i : Int) ∧ i ≤ b.size ∧ Hid (itemsR noS q = itemsR S (q.drop i)) ∧ Hid (Blk wr bx 110 (rpL false S (-1))) ∧ Hid (Below B w wr)) (fun x _ => b.size - (intOf x).toNat)
        case atStart => exact ⟨0, noS, rfl, by omega, Lib.hid rfl, HBK, Lib.hid (Below.refl _ _)⟩
        case round =>
          clear HBK
          obtain ⟨i, S, rfl, hi, HIT, HBK, HBW⟩ := hrel
          by_cases hlt : i < b.size
          · have HDC := Lib.hid (drop_consT (HS.out.at_ hlt))
            have i0 : (i : Int) < (b.size : Int) := by omega
            by_cases hd : i + 2 < b.size ∧ (∃ h : i + 1 < b.size, b[i + 1] = 45)
            · obtain ⟨hd1, hd2, hd3⟩ := hd
              have HIG2 : Hid (itemG b[i] (q.drop (i + 1)) = (b[i + 2], q.drop (i + 2 + 1))) := Lib.hid (by
                rw [drop_consT (HS.out.at_ hd2), drop_consT (HS.out.at_ hd1), hd3]
                rfl)
              have HST : Hid (itemsR noS q = if oddC b[i] || oddC b[i + 2] || decide (b[i + 2] < b[i]) then none else itemsR (addS S b[i] b[i + 2]) (q.drop (i + 2 + 1))) := Lib.hid (by rw [HIT.out, HDC.out]; exact items_step HIG2.out)
              have i1 : (i : Int) + 2 < (b.size : Int) := by omega
              have i2 : (i : Int) + 1 < (b.size : Int) := by omega
              have i3 : 0 ≤ (i : Int) + 1 := by omega
              have i4 : 0 ≤ (i : Int) + 2 := by omega
              have k45 : (((b[i + 1]).toNat : Int) == 45) = true := by rw [hd3]; rfl
              clear hd3
              go_wp2_with fail
              go_region
              go_upto_region 14 with fail
              clear k45
              generalize b[i] = ca at *
              generalize b[i + 2] = cb at *
              cases hoa : oddC ca with
              | true =>
                have HA := Lib.hid (fun W => rPlain_is ca W hoa)
                have HNO : Hid (itemsR noS q = none) := Lib.hid (by rw [HST.out]; simp [hoa])
                clear hoa
                go_wp2_with fail
                refine (HA.out _).mono ?_
                rintro e w' ⟨rfl, rfl⟩
                go_wp2_with fail
                go_ret
                exact ⟨Below.drew HBW.out, .inl ⟨by rw [HIG.out, HNO.out]; rfl, rfl⟩⟩
              | false =>
                have HA := Lib.hid (fun W => rPlain_is ca W hoa)
                cases hob : oddC cb with
                | true =>
                  have HC := Lib.hid (fun W => rPlain_is cb W hob)
                  have HNO : Hid (itemsR noS q = none) := Lib.hid (by rw [HST.out]; simp [hob])
                  clear hoa hob
                  go_wp2_with fail
                  refine (HA.out _).mono ?_
                  rintro e w' ⟨rfl, rfl⟩
                  go_wp2_with fail
                  refine (HC.out _).mono ?_
                  rintro e w2 ⟨rfl, rfl⟩
                  go_wp2_with fail
                  go_ret
                  exact ⟨Below.drew HBW.out, .inl ⟨by rw [HIG.out, HNO.out]; rfl, rfl⟩⟩
                | false =>
                  have HC := Lib.hid (fun W => rPlain_is cb W hob)
                  by_cases hlt2 : cb < ca
                  · have HNO : Hid (itemsR noS q = none) := Lib.hid (by rw [HST.out, decide_eq_true hlt2]; simp)
                    have l0 : (cb).toNat < (ca).toNat := hlt2
                    clear hoa hob hlt2
                    go_wp2_with fail
                    refine (HA.out _).mono ?_
                    rintro e w' ⟨rfl, rfl⟩
                    go_wp2_with fail
                    refine (HC.out _).mono ?_
                    rintro e w2 ⟨rfl, rfl⟩
                    go_wp2_with fail
                    go_ret
                    exact ⟨Below.drew HBW.out, .inl ⟨by rw [HIG.out, HNO.out]; rfl, rfl⟩⟩
                  · have HNX : Hid (itemsR noS q = itemsR (addS S ca cb) (q.drop (i + 2 + 1))) := Lib.hid (by rw [HST.out, decide_eq_false hlt2]; simp [hoa, hob])
                    have hle : (ca).toNat ≤ (cb).toNat := Nat.le_of_not_lt hlt2
                    have l0 : ¬ (cb).toNat < (ca).toNat := hlt2
                    have HLE := Lib.hid hle
                    have HUE := Lib.hid (upS_end S ca cb)
                    have HBB := Lib.hid ((cb).toNat_lt)
                    have HBU : Hid (Blk wr.drew bx 110 (rpL false (upS S ca (ca).toNat) (-1))) := Lib.hid (by rw [upS_zero]; exact HBK.out)
                    have HBD := Lib.hid (Below.drew HBW.out)
                    clear hoa hob hlt2 hle HBK HBW
                    go_wp2_with fail
                    refine (HA.out _).mono ?_
                    rintro e w' ⟨rfl, rfl⟩
                    go_wp2_with fail
                    refine (HC.out _).mono ?_
                    rintro e w2 ⟨rfl, rfl⟩
                    go_upto_region 16 with fail
                    clear l0
                    have hwa : wrap64 ((ca.toNat : Nat) : Int) = ((ca.toNat : Nat) : Int) := wrap_byte ca
                    have hwb : wrap64 ((cb.toNat : Nat) : Int) = ((cb.toNat : Nat) : Int) := wrap_byte cb
                    obtain ⟨wo, hwo⟩ : ∃ wo : World, wo = wr.drew := ⟨_, rfl⟩
                    rw [← hwo] at HBU HBD ⊢
                    clear hwo
                    go_wp2_with fail
                    go_loopw [10] (fun x wr => ∃ c : Nat, x = .int .i64 (c : Int) ∧ (ca).toNat ≤ c ∧ c ≤ (cb).toNat + 1 ∧ Hid (Blk wr bx 110 (rpL false (upS S ca c) (-1))) ∧ Hid (Below B w wr)) (fun x _ => 300 - (intOf x).toNat)
                    case atStart => exact ⟨(ca).toNat, congrArg (Value.int .i64) hwa, Nat.le_refl _, by have := HLE.out; omega, HBU, HBD⟩
                    case round =>
                      clear HBU HBD
                      obtain ⟨c, rfl, hc1, hc2, HBU, HBD⟩ := hrel
                      by_cases hcl : c ≤ (cb).toNat
                      · have hc6 : c < 256 := Nat.lt_of_le_of_lt hcl HBB.out
                        have hcl' : (c : Int) ≤ ((cb).toNat : Int) := by omega
                        have c0 := HBU.out.cell (rpL_at false (upS S ca c) (-1) hc6)
                        have f0 := HBU.out.free (1 + c)
                        have HBU2 := Lib.hid (HBU.out.same (1 + c) (.bool true))
                        have HBD2 := Lib.hid (HBD.out.setCell (p := ⟨bx, 1 + c, none⟩) hB (.bool true))
                        rw [rpL_set _ _ _ hc6, rpL_ext false (-1) (fun d _ => putS_up S ca hc1 d)] at HBU2
                        have c6 : (c : Int) < 256 := by omega
                        go_wp2_with fail
                        exact ⟨⟨c + 1, rfl, by omega, by omega, HBU2, HBD2⟩, measG (by omega)⟩
                      · have hce : c = (cb).toNat + 1 := by omega
                        have hcl' : ¬ c ≤ (cb).toNat := hcl
                        have HBU3 : Hid (Blk wr bx 110 (rpL false (addS S ca cb) (-1))) := Lib.hid (by rw [← HUE.out, ← hce]; exact HBU.out)
                        have HHCE := Lib.hid hce
                        clear hce hcl
                        go_wp2_with fail
                        exact ⟨⟨i + 2 + 1, _, rfl, by omega, HNX, HBU3, HBD⟩, by simp only [intOf]; omega⟩
            · have HIG2 : Hid (itemG b[i] (q.drop (i + 1)) = (b[i], q.drop (i + 1))) := Lib.hid (itemG_plain (fun y r hq => by
                have e1 : q[i + 1]? = some 45 := by have := congrArg (fun l => l[0]?) hq; simpa using this
                have e2 : q[i + 2]? = some y := by have := congrArg (fun l => l[1]?) hq; simpa using this
                have l2 : i + 2 < b.size := by rw [HSZ.out]; exact (List.getElem?_eq_some_iff.1 e2).1
                refine hd ⟨l2, by omega, ?_⟩
                have e3 := HS.out.at_ (show i + 1 < b.size by omega)
                rw [e1] at e3
                injection e3 with e3
                exact e3.symm))
              have HST : Hid (itemsR noS q = if oddC b[i] || oddC b[i] || decide (b[i] < b[i]) then none else itemsR (addS S b[i] b[i]) (q.drop (i + 1))) := Lib.hid (by rw [HIT.out, HDC.out]; exact items_step HIG2.out)
              by_cases hd1 : i + 2 < b.size
              · have hd2 : i + 1 < b.size := by omega
                have i1 : (i : Int) + 2 < (b.size : Int) := by omega
                have i2 : (i : Int) + 1 < (b.size : Int) := by omega
                have i3 : 0 ≤ (i : Int) + 1 := by omega
                have i4 : 0 ≤ (i : Int) + 2 := by omega
                have k45 : (((b[i + 1]).toNat : Int) == 45) = false := by
                  have h5 : b[i + 1] ≠ 45 := fun e => hd ⟨hd1, hd2, e⟩
                  have : (b[i + 1]).toNat ≠ 45 := fun e => h5 (UInt8.toNat_inj.1 e)
                  simp
                  omega
                clear hd
                go_wp2_with fail
                go_region
                go_upto_region 14 with fail
                clear k45
                generalize b[i] = ca at *
                cases hoa : oddC ca with
                | true =>
                  have HA := Lib.hid (fun W => rPlain_is ca W hoa)
                  have HNO : Hid (itemsR noS q = none) := Lib.hid (by rw [HST.out]; simp [hoa])
                  clear hoa
                  go_wp2_with fail
                  refine (HA.out _).mono ?_
                  rintro e w' ⟨rfl, rfl⟩
                  go_wp2_with fail
                  go_ret
                  exact ⟨Below.drew HBW.out, .inl ⟨by rw [HIG.out, HNO.out]; rfl, rfl⟩⟩
                | false =>
                  have HA := Lib.hid (fun W => rPlain_is ca W hoa)
                  have HNX : Hid (itemsR noS q = itemsR (addS S ca ca) (q.drop (i + 1))) := Lib.hid (by rw [HST.out, decide_eq_false (show ¬ ca < ca from UInt8.lt_irrefl _)]; simp [hoa])
                  have hle : (ca).toNat ≤ (ca).toNat := Nat.le_refl _
                  have l0 : ¬ (ca).toNat < (ca).toNat := Nat.lt_irrefl _
                  have HLE := Lib.hid hle
                  have HUE := Lib.hid (upS_end S ca ca)
                  have HBB := Lib.hid ((ca).toNat_lt)
                  have HBU : Hid (Blk wr.drew bx 110 (rpL false (upS S ca (ca).toNat) (-1))) := Lib.hid (by rw [upS_zero]; exact HBK.out)
                  have HBD := Lib.hid (Below.drew HBW.out)
                  clear hoa  hle HBK HBW
                  go_wp2_with fail
                  refine (HA.out _).mono ?_
                  rintro e w' ⟨rfl, rfl⟩
                  go_wp2_with fail
                  refine (HA.out _).mono ?_
                  rintro e w2 ⟨rfl, rfl⟩
                  go_upto_region 16 with fail
                  clear l0
                  have hwa : wrap64 ((ca.toNat : Nat) : Int) = ((ca.toNat : Nat) : Int) := wrap_byte ca
                  obtain ⟨wo, hwo⟩ : ∃ wo : World, wo = wr.drew := ⟨_, rfl⟩
                  rw [← hwo] at HBU HBD ⊢
                  clear hwo
                  go_wp2_with fail
                  go_loopw [10] (fun x wr => ∃ c : Nat, x = .int .i64 (c : Int) ∧ (ca).toNat ≤ c ∧ c ≤ (ca).toNat + 1 ∧ Hid (Blk wr bx 110 (rpL false (upS S ca c) (-1))) ∧ Hid (Below B w wr)) (fun x _ => 300 - (intOf x).toNat)
                  case atStart => exact ⟨(ca).toNat, congrArg (Value.int .i64) hwa, Nat.le_refl _, by have := HLE.out; omega, HBU, HBD⟩
                  case round =>
                    clear HBU HBD
                    obtain ⟨c, rfl, hc1, hc2, HBU, HBD⟩ := hrel
                    by_cases hcl : c ≤ (ca).toNat
                    · have hc6 : c < 256 := Nat.lt_of_le_of_lt hcl HBB.out
                      have hcl' : (c : Int) ≤ ((ca).toNat : Int) := by omega
                      have c0 := HBU.out.cell (rpL_at false (upS S ca c) (-1) hc6)
                      have f0 := HBU.out.free (1 + c)
                      have HBU2 := Lib.hid (HBU.out.same (1 + c) (.bool true))
                      have HBD2 := Lib.hid (HBD.out.setCell (p := ⟨bx, 1 + c, none⟩) hB (.bool true))
                      rw [rpL_set _ _ _ hc6, rpL_ext false (-1) (fun d _ => putS_up S ca hc1 d)] at HBU2
                      have c6 : (c : Int) < 256 := by omega
                      go_wp2_with fail
                      exact ⟨⟨c + 1, rfl, by omega, by omega, HBU2, HBD2⟩, measG (by omega)⟩
                    · have hce : c = (ca).toNat + 1 := by omega
                      have hcl' : ¬ c ≤ (ca).toNat := hcl
                      have HBU3 : Hid (Blk wr bx 110 (rpL false (addS S ca ca) (-1))) := Lib.hid (by rw [← HUE.out, ← hce]; exact HBU.out)
                      have HHCE := Lib.hid hce
                      clear hce hcl
                      go_wp2_with fail
                      exact ⟨⟨i + 1, _, rfl, by omega, HNX, HBU3, HBD⟩, by simp only [intOf]; omega⟩
              · have i1 : (b.size : Int) ≤ (i : Int) + 2 := by omega
                clear hd
                go_wp2_with fail
                go_region
                go_upto_region 14 with fail
                generalize b[i] = ca at *
                cases hoa : oddC ca with
                | true =>
                  have HA := Lib.hid (fun W => rPlain_is ca W hoa)
                  have HNO : Hid (itemsR noS q = none) := Lib.hid (by rw [HST.out]; simp [hoa])
                  clear hoa
                  go_wp2_with fail
                  refine (HA.out _).mono ?_
                  rintro e w' ⟨rfl, rfl⟩
                  go_wp2_with fail
                  go_ret
                  exact ⟨Below.drew HBW.out, .inl ⟨by rw [HIG.out, HNO.out]; rfl, rfl⟩⟩
                | false =>
                  have HA := Lib.hid (fun W => rPlain_is ca W hoa)
                  have HNX : Hid (itemsR noS q = itemsR (addS S ca ca) (q.drop (i + 1))) := Lib.hid (by rw [HST.out, decide_eq_false (show ¬ ca < ca from UInt8.lt_irrefl _)]; simp [hoa])
                  have hle : (ca).toNat ≤ (ca).toNat := Nat.le_refl _
                  have l0 : ¬ (ca).toNat < (ca).toNat := Nat.lt_irrefl _
                  have HLE := Lib.hid hle
                  have HUE := Lib.hid (upS_end S ca ca)
                  have HBB := Lib.hid ((ca).toNat_lt)
                  have HBU : Hid (Blk wr.drew bx 110 (rpL false (upS S ca (ca).toNat) (-1))) := Lib.hid (by rw [upS_zero]; exact HBK.out)
                  have HBD := Lib.hid (Below.drew HBW.out)
                  clear hoa  hle HBK HBW
                  go_wp2_with fail
                  refine (HA.out _).mono ?_
                  rintro e w' ⟨rfl, rfl⟩
                  go_wp2_with fail
                  refine (HA.out _).mono ?_
                  rintro e w2 ⟨rfl, rfl⟩
                  go_upto_region 16 with fail
                  clear l0
                  have hwa : wrap64 ((ca.toNat : Nat) : Int) = ((ca.toNat : Nat) : Int) := wrap_byte ca
                  obtain ⟨wo, hwo⟩ : ∃ wo : World, wo = wr.drew := ⟨_, rfl⟩
                  rw [← hwo] at HBU HBD ⊢
                  clear hwo
                  go_wp2_with fail
                  go_loopw [10] (fun x wr => ∃ c : Nat, x = .int .i64 (c : Int) ∧ (ca).toNat ≤ c ∧ c ≤ (ca).toNat + 1 ∧ Hid (Blk wr bx 110 (rpL false (upS S ca c) (-1))) ∧ Hid (Below B w wr)) (fun x _ => 300 - (intOf x).toNat)
                  case atStart => exact ⟨(ca).toNat, congrArg (Value.int .i64) hwa, Nat.le_refl _, by have := HLE.out; omega, HBU, HBD⟩
                  case round =>
                    clear HBU HBD
                    obtain ⟨c, rfl, hc1, hc2, HBU, HBD⟩ := hrel
                    by_cases hcl : c ≤ (ca).toNat
                    · have hc6 : c < 256 := Nat.lt_of_le_of_lt hcl HBB.out
                      have hcl' : (c : Int) ≤ ((ca).toNat : Int) := by omega
                      have c0 := HBU.out.cell (rpL_at false (upS S ca c) (-1) hc6)
                      have f0 := HBU.out.free (1 + c)
                      have HBU2 := Lib.hid (HBU.out.same (1 + c) (.bool true))
                      have HBD2 := Lib.hid (HBD.out.setCell (p := ⟨bx, 1 + c, none⟩) hB (.bool true))
                      rw [rpL_set _ _ _ hc6, rpL_ext false (-1) (fun d _ => putS_up S ca hc1 d)] at HBU2
                      have c6 : (c : Int) < 256 := by omega
                      go_wp2_with fail
                      exact ⟨⟨c + 1, rfl, by omega, by omega, HBU2, HBD2⟩, measG (by omega)⟩
                    · have hce : c = (ca).toNat + 1 := by omega
                      have hcl' : ¬ c ≤ (ca).toNat := hcl
                      have HBU3 : Hid (Blk wr bx 110 (rpL false (addS S ca ca) (-1))) := Lib.hid (by rw [← HUE.out, ← hce]; exact HBU.out)
                      have HHCE := Lib.hid hce
                      clear hce hcl
                      go_wp2_with fail
                      exact ⟨⟨i + 1, _, rfl, by omega, HNX, HBU3, HBD⟩, by simp only [intOf]; omega⟩
          · obtain rfl : i = b.size := by omega
            have HQ : Hid (itemsR noS q = some S) := Lib.hid (by rw [HIT.out, List.drop_of_length_le (by rw [HSZ.out]; exact Nat.le_refl _), itemsR])
            go_wp2_with fail
            go_loopw [83] (fun x wr => ∃ j : Nat, x = .int .i64 (j : Int) ∧ j ≤ 256 ∧ Hid (Blk wr bx 110 (rpL false (trnS S j) (-1))) ∧ Hid (Below B w wr)) (fun x _ => 256 - (intOf x).toNat)
            case atStart => exact ⟨0, rfl, by omega, Lib.hid (by rw [trnS_zero]; exact HBK.out), HBW⟩
            case round =>
              clear HBK HBW
              obtain ⟨j, rfl, hj, HBK, HBW⟩ := hrel
              by_cases hjl : j < 256
              · have c0 := HBK.out.cell (rpL_at false (trnS S j) (-1) hjl)
                have f0 := HBK.out.free (1 + j)
                rw [trnS_at] at c0
                have j0 : (j : Int) < 256 := by omega
                have HBK2 := Lib.hid (HBK.out.same (1 + j) (.bool (!S j)))
                have HBW2 := Lib.hid (HBW.out.setCell (p := ⟨bx, 1 + j, none⟩) hB (.bool (!S j)))
                rw [rpL_set _ _ _ hjl, rpL_ext false (-1) (fun c _ => trnS_put S j c)] at HBK2
                generalize S j = sj at *
                go_wp2_with fail
                go_region
                go_wp2_with fail
                exact ⟨⟨j + 1, rfl, by omega, HBK2, Lib.hid (Below.drew HBW2.out)⟩, by simp only [intOf]; omega⟩
              · obtain rfl : j = 256 := by omega
                go_wp2_with fail
                go_ret
                exact ⟨HBW.out, .inr ⟨turnS S, by rw [HIG.out, HQ.out]; rfl, rfl, by rw [← rpL_ext false (-1) (fun c hc => trnS_end S hc)]; exact HBK.out⟩⟩
    · have n0 : ((a.toNat : Int) == 33) = false := by
        have : a.toNat ≠ 33 := fun e => ha (UInt8.toNat_inj.1 e)
        simp
        omega
      have HIG : Hid (itmG (a :: t) = (itemsR noS (a :: t)).map id) := Lib.hid (by
        have hn : negB (a :: t) = false := by unfold negB; simp [ha]
        unfold itmG behB setB
        rw [hn]
        simp)
      go_enter Tryd.func77, Tryd.ntmps77
      go_upto_region 6 with fail
      clear g0 n0
      generalize hq : a :: t = q at *
      have hql : q.length ≤ 100 := hs
      clear hs
      have HS := Lib.hid (strIs q)
      generalize (⟨q.toArray⟩ : ByteArray) = b at *
      have HSZ := Lib.hid HS.out.size
      have hbs : b.size ≤ 100 := by rw [HSZ.out]; exact hql
      clear hq hql
      go_wp2_with fail
      go_loopw [7] (fun x wr => ∃ (i : Nat) (S : Nat → Bool), x = .int .i64 (i : Int) ∧ i ≤ b.size ∧ Hid (itemsR noS q = itemsR S (q.drop i)) ∧ Hid (Blk wr bx 110 (rpL false S (-1))) ∧ Hid (Below B w wr)) (fun x _ => b.size - (intOf x).toNat)
      case atStart => exact ⟨0, noS, rfl, by omega, Lib.hid rfl, HBK, Lib.hid (Below.refl _ _)⟩
      case round =>
        clear HBK
        obtain ⟨i, S, rfl, hi, HIT, HBK, HBW⟩ := hrel
        by_cases hlt : i < b.size
        · have HDC := Lib.hid (drop_consT (HS.out.at_ hlt))
          have i0 : (i : Int) < (b.size : Int) := by omega
          by_cases hd : i + 2 < b.size ∧ (∃ h : i + 1 < b.size, b[i + 1] = 45)
          · obtain ⟨hd1, hd2, hd3⟩ := hd
            have HIG2 : Hid (itemG b[i] (q.drop (i + 1)) = (b[i + 2], q.drop (i + 2 + 1))) := Lib.hid (by
              rw [drop_consT (HS.out.at_ hd2), drop_consT (HS.out.at_ hd1), hd3]
              rfl)
            have HST : Hid (itemsR noS q = if oddC b[i] || oddC b[i + 2] || decide (b[i + 2] < b[i]) then none else itemsR (addS S b[i] b[i + 2]) (q.drop (i + 2 + 1))) := Lib.hid (by rw [HIT.out, HDC.out]; exact items_step HIG2.out)
            have i1 : (i : Int) + 2 < (b.size : Int) := by omega
            have i2 : (i : Int) + 1 < (b.size : Int) := by omega
            have i3 : 0 ≤ (i : Int) + 1 := by omega
            have i4 : 0 ≤ (i : Int) + 2 := by omega
            have k45 : (((b[i + 1]).toNat : Int) == 45) = true := by rw [hd3]; rfl
            clear hd3
            go_wp2_with fail
            go_region
            go_upto_region 14 with fail
            clear k45
            generalize b[i] = ca at *
            generalize b[i + 2] = cb at *
            cases hoa : oddC ca with
            | true =>
              have HA := Lib.hid (fun W => rPlain_is ca W hoa)
              have HNO : Hid (itemsR noS q = none) := Lib.hid (by rw [HST.out]; simp [hoa])
              clear hoa
              go_wp2_with fail
              refine (HA.out _).mono ?_
              rintro e w' ⟨rfl, rfl⟩
              go_wp2_with fail
              go_ret
              exact ⟨Below.drew HBW.out, .inl ⟨by rw [HIG.out, HNO.out]; rfl, rfl⟩⟩
            | false =>
              have HA := Lib.hid (fun W => rPlain_is ca W hoa)
              cases hob : oddC cb with
              | true =>
                have HC := Lib.hid (fun W => rPlain_is cb W hob)
                have HNO : Hid (itemsR noS q = none) := Lib.hid (by rw [HST.out]; simp [hob])
                clear hoa hob
                go_wp2_with fail
                refine (HA.out _).mono ?_
                rintro e w' ⟨rfl, rfl⟩
                go_wp2_with fail
                refine (HC.out _).mono ?_
                rintro e w2 ⟨rfl, rfl⟩
                go_wp2_with fail
                go_ret
                exact ⟨Below.drew HBW.out, .inl ⟨by rw [HIG.out, HNO.out]; rfl, rfl⟩⟩
              | false =>
                have HC := Lib.hid (fun W => rPlain_is cb W hob)
                by_cases hlt2 : cb < ca
                · have HNO : Hid (itemsR noS q = none) := Lib.hid (by rw [HST.out, decide_eq_true hlt2]; simp)
                  have l0 : (cb).toNat < (ca).toNat := hlt2
                  clear hoa hob hlt2
                  go_wp2_with fail
                  refine (HA.out _).mono ?_
                  rintro e w' ⟨rfl, rfl⟩
                  go_wp2_with fail
                  refine (HC.out _).mono ?_
                  rintro e w2 ⟨rfl, rfl⟩
                  go_wp2_with fail
                  go_ret
                  exact ⟨Below.drew HBW.out, .inl ⟨by rw [HIG.out, HNO.out]; rfl, rfl⟩⟩
                · have HNX : Hid (itemsR noS q = itemsR (addS S ca cb) (q.drop (i + 2 + 1))) := Lib.hid (by rw [HST.out, decide_eq_false hlt2]; simp [hoa, hob])
                  have hle : (ca).toNat ≤ (cb).toNat := Nat.le_of_not_lt hlt2
                  have l0 : ¬ (cb).toNat < (ca).toNat := hlt2
                  have HLE := Lib.hid hle
                  have HUE := Lib.hid (upS_end S ca cb)
                  have HBB := Lib.hid ((cb).toNat_lt)
                  have HBU : Hid (Blk wr.drew bx 110 (rpL false (upS S ca (ca).toNat) (-1))) := Lib.hid (by rw [upS_zero]; exact HBK.out)
                  have HBD := Lib.hid (Below.drew HBW.out)
                  clear hoa hob hlt2 hle HBK HBW
                  go_wp2_with fail
                  refine (HA.out _).mono ?_
                  rintro e w' ⟨rfl, rfl⟩
                  go_wp2_with fail
                  refine (HC.out _).mono ?_
                  rintro e w2 ⟨rfl, rfl⟩
                  go_upto_region 16 with fail
                  clear l0
                  have hwa : wrap64 ((ca.toNat : Nat) : Int) = ((ca.toNat : Nat) : Int) := wrap_byte ca
                  have hwb : wrap64 ((cb.toNat : Nat) : Int) = ((cb.toNat : Nat) : Int) := wrap_byte cb
                  obtain ⟨wo, hwo⟩ : ∃ wo : World, wo = wr.drew := ⟨_, rfl⟩
                  rw [← hwo] at HBU HBD ⊢
                  clear hwo
                  go_wp2_with fail
                  go_loopw [10] (fun x wr => ∃ c : Nat, x = .int .i64 (c : Int) ∧ (ca).toNat ≤ c ∧ c ≤ (cb).toNat + 1 ∧ Hid (Blk wr bx 110 (rpL false (upS S ca c) (-1))) ∧ Hid (Below B w wr)) (fun x _ => 300 - (intOf x).toNat)
                  case atStart => exact ⟨(ca).toNat, congrArg (Value.int .i64) hwa, Nat.le_refl _, by have := HLE.out; omega, HBU, HBD⟩
                  case round =>
                    clear HBU HBD
                    obtain ⟨c, rfl, hc1, hc2, HBU, HBD⟩ := hrel
                    by_cases hcl : c ≤ (cb).toNat
                    · have hc6 : c < 256 := Nat.lt_of_le_of_lt hcl HBB.out
                      have hcl' : (c : Int) ≤ ((cb).toNat : Int) := by omega
                      have c0 := HBU.out.cell (rpL_at false (upS S ca c) (-1) hc6)
                      have f0 := HBU.out.free (1 + c)
                      have HBU2 := Lib.hid (HBU.out.same (1 + c) (.bool true))
                      have HBD2 := Lib.hid (HBD.out.setCell (p := ⟨bx, 1 + c, none⟩) hB (.bool true))
                      rw [rpL_set _ _ _ hc6, rpL_ext false (-1) (fun d _ => putS_up S ca hc1 d)] at HBU2
                      have c6 : (c : Int) < 256 := by omega
                      go_wp2_with fail
                      exact ⟨⟨c + 1, rfl, by omega, by omega, HBU2, HBD2⟩, measG (by omega)⟩
                    · have hce : c = (cb).toNat + 1 := by omega
                      have hcl' : ¬ c ≤ (cb).toNat := hcl
                      have HBU3 : Hid (Blk wr bx 110 (rpL false (addS S ca cb) (-1))) := Lib.hid (by rw [← HUE.out, ← hce]; exact HBU.out)
                      have HHCE := Lib.hid hce
                      clear hce hcl
                      go_wp2_with fail
                      exact ⟨⟨i + 2 + 1, _, rfl, by omega, HNX, HBU3, HBD⟩, by simp only [intOf]; omega⟩
          · have HIG2 : Hid (itemG b[i] (q.drop (i + 1)) = (b[i], q.drop (i + 1))) := Lib.hid (itemG_plain (fun y r hq => by
              have e1 : q[i + 1]? = some 45 := by have := congrArg (fun l => l[0]?) hq; simpa using this
              have e2 : q[i + 2]? = some y := by have := congrArg (fun l => l[1]?) hq; simpa using this
              have l2 : i + 2 < b.size := by rw [HSZ.out]; exact (List.getElem?_eq_some_iff.1 e2).1
              refine hd ⟨l2, by omega, ?_⟩
              have e3 := HS.out.at_ (show i + 1 < b.size by omega)
              rw [e1] at e3
              injection e3 with e3
              exact e3.symm))
            have HST : Hid (itemsR noS q = if oddC b[i] || oddC b[i] || decide (b[i] < b[i]) then none else itemsR (addS S b[i] b[i]) (q.drop (i + 1))) := Lib.hid (by rw [HIT.out, HDC.out]; exact items_step HIG2.out)
            by_cases hd1 : i + 2 < b.size
            · have hd2 : i + 1 < b.size := by omega
              have i1 : (i : Int) + 2 < (b.size : Int) := by omega
              have i2 : (i : Int) + 1 < (b.size : Int) := by omega
              have i3 : 0 ≤ (i : Int) + 1 := by omega
              have i4 : 0 ≤ (i : Int) + 2 := by omega
              have k45 : (((b[i + 1]).toNat : Int) == 45) = false := by
                have h5 : b[i + 1] ≠ 45 := fun e => hd ⟨hd1, hd2, e⟩
                have : (b[i + 1]).toNat ≠ 45 := fun e => h5 (UInt8.toNat_inj.1 e)
                simp
                omega
              clear hd
              go_wp2_with fail
              go_region
              go_upto_region 14 with fail
              clear k45
              generalize b[i] = ca at *
              cases hoa : oddC ca with
              | true =>
                have HA := Lib.hid (fun W => rPlain_is ca W hoa)
                have HNO : Hid (itemsR noS q = none) := Lib.hid (by rw [HST.out]; simp [hoa])
                clear hoa
                go_wp2_with fail
                refine (HA.out _).mono ?_
                rintro e w' ⟨rfl, rfl⟩
                go_wp2_with fail
                go_ret
                exact ⟨Below.drew HBW.out, .inl ⟨by rw [HIG.out, HNO.out]; rfl, rfl⟩⟩
              | false =>
                have HA := Lib.hid (fun W => rPlain_is ca W hoa)
                have HNX : Hid (itemsR noS q = itemsR (addS S ca ca) (q.drop (i + 1))) := Lib.hid (by rw [HST.out, decide_eq_false (show ¬ ca < ca from UInt8.lt_irrefl _)]; simp [hoa])
                have hle : (ca).toNat ≤ (ca).toNat := Nat.le_refl _
                have l0 : ¬ (ca).toNat < (ca).toNat := Nat.lt_irrefl _
                have HLE := Lib.hid hle
                have HUE := Lib.hid (upS_end S ca ca)
                have HBB := Lib.hid ((ca).toNat_lt)
                have HBU : Hid (Blk wr.drew bx 110 (rpL false (upS S ca (ca).toNat) (-1))) := Lib.hid (by rw [upS_zero]; exact HBK.out)
                have HBD := Lib.hid (Below.drew HBW.out)
                clear hoa  hle HBK HBW
                go_wp2_with fail
                refine (HA.out _).mono ?_
                rintro e w' ⟨rfl, rfl⟩
                go_wp2_with fail
                refine (HA.out _).mono ?_
                rintro e w2 ⟨rfl, rfl⟩
                go_upto_region 16 with fail
                clear l0
                have hwa : wrap64 ((ca.toNat : Nat) : Int) = ((ca.toNat : Nat) : Int) := wrap_byte ca
                obtain ⟨wo, hwo⟩ : ∃ wo : World, wo = wr.drew := ⟨_, rfl⟩
                rw [← hwo] at HBU HBD ⊢
                clear hwo
                go_wp2_with fail
                go_loopw [10] (fun x wr => ∃ c : Nat, x = .int .i64 (c : Int) ∧ (ca).toNat ≤ c ∧ c ≤ (ca).toNat + 1 ∧ Hid (Blk wr bx 110 (rpL false (upS S ca c) (-1))) ∧ Hid (Below B w wr)) (fun x _ => 300 - (intOf x).toNat)
                case atStart => exact ⟨(ca).toNat, congrArg (Value.int .i64) hwa, Nat.le_refl _, by have := HLE.out; omega, HBU, HBD⟩
                case round =>
                  clear HBU HBD
                  obtain ⟨c, rfl, hc1, hc2, HBU, HBD⟩ := hrel
                  by_cases hcl : c ≤ (ca).toNat
                  · have hc6 : c < 256 := Nat.lt_of_le_of_lt hcl HBB.out
                    have hcl' : (c : Int) ≤ ((ca).toNat : Int) := by omega
                    have c0 := HBU.out.cell (rpL_at false (upS S ca c) (-1) hc6)
                    have f0 := HBU.out.free (1 + c)
                    have HBU2 := Lib.hid (HBU.out.same (1 + c) (.bool true))
                    have HBD2 := Lib.hid (HBD.out.setCell (p := ⟨bx, 1 + c, none⟩) hB (.bool true))
                    rw [rpL_set _ _ _ hc6, rpL_ext false (-1) (fun d _ => putS_up S ca hc1 d)] at HBU2
                    have c6 : (c : Int) < 256 := by omega
                    go_wp2_with fail
                    exact ⟨⟨c + 1, rfl, by omega, by omega, HBU2, HBD2⟩, measG (by omega)⟩
                  · have hce : c = (ca).toNat + 1 := by omega
                    have hcl' : ¬ c ≤ (ca).toNat := hcl
                    have HBU3 : Hid (Blk wr bx 110 (rpL false (addS S ca ca) (-1))) := Lib.hid (by rw [← HUE.out, ← hce]; exact HBU.out)
                    have HHCE := Lib.hid hce
                    clear hce hcl
                    go_wp2_with fail
                    exact ⟨⟨i + 1, _, rfl, by omega, HNX, HBU3, HBD⟩, by simp only [intOf]; omega⟩
            · have i1 : (b.size : Int) ≤ (i : Int) + 2 := by omega
              clear hd
              go_wp2_with fail
              go_region
              go_upto_region 14 with fail
              generalize b[i] = ca at *
              cases hoa : oddC ca with
              | true =>
                have HA := Lib.hid (fun W => rPlain_is ca W hoa)
                have HNO : Hid (itemsR noS q = none) := Lib.hid (by rw [HST.out]; simp [hoa])
                clear hoa
                go_wp2_with fail
                refine (HA.out _).mono ?_
                rintro e w' ⟨rfl, rfl⟩
                go_wp2_with fail
                go_ret
                exact ⟨Below.drew HBW.out, .inl ⟨by rw [HIG.out, HNO.out]; rfl, rfl⟩⟩
              | false =>
                have HA := Lib.hid (fun W => rPlain_is ca W hoa)
                have HNX : Hid (itemsR noS q = itemsR (addS S ca ca) (q.drop (i + 1))) := Lib.hid (by rw [HST.out, decide_eq_false (show ¬ ca < ca from UInt8.lt_irrefl _)]; simp [hoa])
                have hle : (ca).toNat ≤ (ca).toNat := Nat.le_refl _
                have l0 : ¬ (ca).toNat < (ca).toNat := Nat.lt_irrefl _
                have HLE := Lib.hid hle
                have HUE := Lib.hid (upS_end S ca ca)
                have HBB := Lib.hid ((ca).toNat_lt)
                have HBU : Hid (Blk wr.drew bx 110 (rpL false (upS S ca (ca).toNat) (-1))) := Lib.hid (by rw [upS_zero]; exact HBK.out)
                have HBD := Lib.hid (Below.drew HBW.out)
                clear hoa  hle HBK HBW
                go_wp2_with fail
                refine (HA.out _).mono ?_
                rintro e w' ⟨rfl, rfl⟩
                go_wp2_with fail
                refine (HA.out _).mono ?_
                rintro e w2 ⟨rfl, rfl⟩
                go_upto_region 16 with fail
                clear l0
                have hwa : wrap64 ((ca.toNat : Nat) : Int) = ((ca.toNat : Nat) : Int) := wrap_byte ca
                obtain ⟨wo, hwo⟩ : ∃ wo : World, wo = wr.drew := ⟨_, rfl⟩
                rw [← hwo] at HBU HBD ⊢
                clear hwo
                go_wp2_with fail
                go_loopw [10] (fun x wr => ∃ c : Nat, x = .int .i64 (c : Int) ∧ (ca).toNat ≤ c ∧ c ≤ (ca).toNat + 1 ∧ Hid (Blk wr bx 110 (rpL false (upS S ca c) (-1))) ∧ Hid (Below B w wr)) (fun x _ => 300 - (intOf x).toNat)
                case atStart => exact ⟨(ca).toNat, congrArg (Value.int .i64) hwa, Nat.le_refl _, by have := HLE.out; omega, HBU, HBD⟩
                case round =>
                  clear HBU HBD
                  obtain ⟨c, rfl, hc1, hc2, HBU, HBD⟩ := hrel
                  by_cases hcl : c ≤ (ca).toNat
                  · have hc6 : c < 256 := Nat.lt_of_le_of_lt hcl HBB.out
                    have hcl' : (c : Int) ≤ ((ca).toNat : Int) := by omega
                    have c0 := HBU.out.cell (rpL_at false (upS S ca c) (-1) hc6)
                    have f0 := HBU.out.free (1 + c)
                    have HBU2 := Lib.hid (HBU.out.same (1 + c) (.bool true))
                    have HBD2 := Lib.hid (HBD.out.setCell (p := ⟨bx, 1 + c, none⟩) hB (.bool true))
                    rw [rpL_set _ _ _ hc6, rpL_ext false (-1) (fun d _ => putS_up S ca hc1 d)] at HBU2
                    have c6 : (c : Int) < 256 := by omega
                    go_wp2_with fail
                    exact ⟨⟨c + 1, rfl, by omega, by omega, HBU2, HBD2⟩, measG (by omega)⟩
                  · have hce : c = (ca).toNat + 1 := by omega
                    have hcl' : ¬ c ≤ (ca).toNat := hcl
                    have HBU3 : Hid (Blk wr bx 110 (rpL false (addS S ca ca) (-1))) := Lib.hid (by rw [← HUE.out, ← hce]; exact HBU.out)
                    have HHCE := Lib.hid hce
                    clear hce hcl
                    go_wp2_with fail
                    exact ⟨⟨i + 1, _, rfl, by omega, HNX, HBU3, HBD⟩, by simp only [intOf]; omega⟩
        · obtain rfl : i = b.size := by omega
          have HQ : Hid (itemsR noS q = some S) := Lib.hid (by rw [HIT.out, List.drop_of_length_le (by rw [HSZ.out]; exact Nat.le_refl _), itemsR])
          go_wp2_with fail
          go_ret
          exact ⟨HBW.out, .inr ⟨S, by rw [HIG.out, HQ.out]; rfl, rfl, HBK.out⟩⟩
end Go.Proofs.YtcodncddaemhlaaDoor
