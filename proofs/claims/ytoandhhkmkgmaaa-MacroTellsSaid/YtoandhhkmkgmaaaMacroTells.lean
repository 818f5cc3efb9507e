/- The law MacroTells: its walk. Texts as they come in. -/
import Derived.Test.YtoandhhkmkgmaaaMac15
import Derived.Test.YtoandhhkmkgmaaaMacEq
import Derived.Test.YtoandhhkmkgmaaaName12
namespace Go.Proofs.Ytoandhhkmkgmaaa
open Go.RowKit

theorem long_no {l : List MacT} (h : longM l = false) : ∀ x ∈ l, x.2.length ≤ 2001 := fun x hx => by
  unfold longM at h
  rw [List.any_eq_false] at h
  have := h x hx
  simp at this
  exact this
noncomputable def flatR (l : List MacT) : List MacT := if flatsE l = 0 then flatL l else []
theorem flatR_len {l : List MacT} : (flatR l).length ≤ l.length := by
  unfold flatR
  split
  · rw [flatL_len]; exact Nat.le_refl _
  · simp
theorem flat_as {l : List MacT} {w w' : World} {e : Ending} (h : (flatsE l ≠ 0 ∧ e = .returned (.tuple #[.slice none 0 0, .int .i64 (flatsE l : Nat)])) ∨ (flatsE l = 0 ∧ ∃ A c, e = .returned (.tuple #[.slice A l.length c, .int .i64 0]) ∧ w'.ownsRow w.heap.size 25 2 (.slice A l.length c) l.length (macV (flatL l)))) :
    ∃ A c, e = .returned (.tuple #[.slice A (flatR l).length c, .int .i64 (flatsE l : Nat)]) ∧ Rd w' A (macV (flatR l)) := by
  rcases h with ⟨h1, rfl⟩ | ⟨h1, A, c, rfl, hown⟩
  · have e : flatR l = [] := if_neg h1
    rw [e]
    exact ⟨none, 0, rfl, Rd.nil_ _ _⟩
  · have e : flatR l = flatL l := if_pos h1
    rw [e, flatL_len, h1]
    exact ⟨A, c, rfl, rd_ownM hown⟩
def usesR (s : List UInt8) : List (List UInt8) := if (parseM s).2 = true then usesOf s else []
def usesErr (s : List UInt8) : Int := if (parseM s).2 = true then 0 else 3
theorem uses_as {s : List UInt8} {w w' : World} {e : Ending} (h : UsesE s w e w') : ∃ A c, e = .returned (.tuple #[.slice A (usesR s).length c, .int .i64 (usesErr s)]) ∧ Rd w' A ((usesR s).map sv) ∧ Below w.heap.size w w' := by
  unfold usesR usesErr
  rcases h with ⟨hp, A, c, rfl, hown, hb⟩ | ⟨hp, rfl, hb⟩
  · rw [if_pos hp, if_pos hp]
    exact ⟨A, c, rfl, rd_of_ownK hown, hb⟩
  · rw [if_neg (by rw [hp]; decide), if_neg (by rw [hp]; decide)]
    exact ⟨none, 0, rfl, Rd.nil_ _ _, hb⟩
set_option maxRecDepth 100000 in
set_option maxHeartbeats 8000000 in
theorem macroTells_walk (A : Option Addr) (c : Nat) (l : List MacT) (s : List UInt8) (m : Int) (W : World) (hR : Rd W A (macV l)) (hl : l.length ≤ 9223372036854775807) (hs : ∀ x ∈ l, x.1.length ≤ 9223372036854775807 ∧ x.2.length ≤ 9223372036854775807) (hb : s.length ≤ 9223372036854775807)
    (hm : W.cell? ⟨0, 0, none⟩ = some (.int .i64 m)) :
    Calls Try.prog 3 #[.slice A l.length c, sv s] W fun e W' => e = .returned (.bool true) ∧ Below W.heap.size W W' := by
  have HR := Lib.hid hR
  have HS := Lib.hid hs
  have HM := Lib.hid (show W.cell? ⟨0, 0, none⟩ = some (.int .i64 m) from hm)
  have HLC := Lib.hid (fun W' (hW : Below W.heap.size W W') => longC_any (c := c) l W' (hR.below hW) rfl hl (fun x hx => (hs x hx).2))
  obtain ⟨n, hn⟩ : ∃ n, l.length = n := ⟨_, rfl⟩
  rw [hn] at HLC hl ⊢
  have HN := Lib.hid hn
  obtain ⟨bs, hbs⟩ : ∃ bs, sv s = .string bs := ⟨_, rfl⟩
  have HBS := Lib.hid hbs
  have HSZ : Hid (bs.size = s.length) := Lib.hid (by unfold sv at hbs; injection hbs with hbs; rw [← hbs]; rfl)
  have hsz : bs.size ≤ 9223372036854775807 := by rw [HSZ.out]; exact hb
  rw [hbs]
  clear hR hs hm hn hbs hb
  go_enter Try.func3, Try.ntmps3
  by_cases hbig : 2001 < bs.size
  · have hbi : (2001 : Int) < (bs.size : Int) := by omega
    clear hbig
    go_wp2_with fail
    go_ret
    exact ⟨rfl, Below.refl _ _⟩
  · have hbi : ¬ (2001 : Int) < (bs.size : Int) := by omega
    have HSM : Hid (s.length ≤ 2001) := Lib.hid (by rw [← HSZ.out]; omega)
    clear hbig
    cases hlm : longM l with
    | true =>
      rw [hlm] at HLC
      clear hlm
      go_wp2_with fail
      refine (HLC.out _ (Below.refl _ _)).mono ?_
      rintro e w1 ⟨rfl, hb1⟩
      have HB1 := Lib.hid hb1
      clear hb1
      go_wp2_with fail
      go_ret
      exact ⟨rfl, HB1.out⟩
    | false =>
      have HSH := Lib.hid (fun x hx => (show x.1.length ≤ 9223372036854775807 ∧ x.2.length ≤ 1048575 from ⟨(HS.out x hx).1, by have := long_no hlm x hx; omega⟩))
      have HSP := Lib.hid (fun x hx => (show x.1.length ≤ 9223372036854775807 ∧ x.2.length < 4294967281 from ⟨(HS.out x hx).1, by have := long_no hlm x hx; omega⟩))
      rw [hlm] at HLC
      clear hlm
      have h0 : 0 < W.heap.size := lt_of_cell' HM.out
      have HC0 : Hid (∀ W', Below W.heap.size W W' → W'.cell? ⟨0, 0, none⟩ = some (.int .i64 m) ∧ 0 < W'.heap.size) := Lib.hid (fun W' hW => ⟨(hW.cell (p := ⟨0, 0, none⟩) h0).trans HM.out, Nat.lt_of_lt_of_le h0 hW.size⟩)
      have HF := Lib.hid (fun W' (hW : Below W.heap.size W W') => mFlatAll_any (c := c) l m W' (HR.out.below hW) HN.out hl HSP.out (HC0.out W' hW).1 (HC0.out W' hW).2)
      have HX := Lib.hid (fun W' (hW : Below W.heap.size W W') => mExpand_any (c := c) l s m W' (HR.out.below hW) HN.out hl HSP.out (by have := HSM.out; omega) (HC0.out W' hW).1 (HC0.out W' hW).2)
      have HU := Lib.hid (fun W' (hW : Below W.heap.size W W') => mUses_any s W' m (HC0.out W' hW).1 (HC0.out W' hW).2 (by have := HSM.out; omega))
      have HRF := Lib.hid (fun W' (hW : Below W.heap.size W W') => rFlat_any (c := c) l W' (HR.out.below hW) HN.out hl HSH.out)
      have HRX := Lib.hid (fun W' (hW : Below W.heap.size W W') => rExp_any (c := c) l s W' (HR.out.below hW) HN.out hl HSH.out (by have := HSM.out; omega))
      have HRC := Lib.hid (fun W' => rCalls_any s W' (by have := HSM.out; omega))
      have HMC := Lib.hid (fun W' (hW : Below W.heap.size W W') => mCheck_any (c := c) l m W' (HR.out.below hW) HN.out hl HSP.out (HC0.out W' hW).1 (HC0.out W' hW).2)
      have HRM := Lib.hid (fun W' (hW : Below W.heap.size W W') => rFault_anyM (c := c) l W' (HR.out.below hW) HN.out hl (fun x hx => ⟨(HSH.out x hx).1, by have := (HSH.out x hx).2; omega⟩))
      rw [HBS.out] at HX HU HRX HRC
      clear h0
      go_wp2_with fail
      refine (HLC.out _ (Below.refl _ _)).mono ?_
      rintro e w1 ⟨rfl, hb1⟩
      have HB1 := Lib.hid hb1
      clear hb1 HLC
      go_wp2_with fail
      refine (HF.out _ HB1.out).mono ?_
      rintro e w2 ⟨hb2, hf⟩
      have HB2 := Lib.hid (below_then HB1.out hb2)
      obtain ⟨AF, cF, rfl, hrf⟩ := flat_as hf
      have HRF2 := Lib.hid hrf
      clear hb2 hf hrf
      generalize hkf : (flatR l).length = kF at *
      have HKF := Lib.hid hkf
      have hkf2 : kF ≤ 9223372036854775807 := by have := flatR_len (l := l); have := HN.out; omega
      clear hkf
      go_wp2_with fail
      refine (HX.out _ HB2.out).mono ?_
      rintro e w3 ⟨hb3, rfl⟩
      have HB3 := Lib.hid (below_then HB2.out hb3)
      have HW3 := Lib.hid hb3
      obtain ⟨bt, hbt⟩ : ∃ bt, sv (expT l s) = .string bt := ⟨_, rfl⟩
      have HBT := Lib.hid hbt
      rw [hbt]
      clear hb3 hbt
      go_wp2_with fail
      refine (HU.out _ HB3.out).mono ?_
      rintro e w4 hu
      obtain ⟨AU, cU, rfl, hru, hb4⟩ := uses_as hu
      have HB4 := Lib.hid (below_then HB3.out hb4)
      have HRU := Lib.hid hru
      have HF4 := Lib.hid ((HRF2.out.below HW3.out).below hb4)
      clear hu hru hb4
      generalize hku : (usesR s).length = kU at *
      have HKU := Lib.hid hku
      clear hku
      generalize hue : usesErr s = eU at *
      have HUE := Lib.hid hue
      clear hue
      go_wp2_with fail
      refine (HRF.out _ HB4.out).mono ?_
      rintro e w5 ⟨hb5, hf⟩
      obtain ⟨AR, cR, rfl, hrr⟩ := flat_as (l := l) (w := w4) (w' := w5) (e := e) (hf.imp id (fun ⟨h1, _, _, h2⟩ => ⟨h1, h2⟩))
      have HB5 := Lib.hid (below_then HB4.out hb5)
      have HF5 := Lib.hid (HF4.out.below hb5)
      have HU5 := Lib.hid (HRU.out.below hb5)
      have HRR := Lib.hid hrr
      clear hb5 hf hrr
      rw [HKF.out]
      go_wp2_with fail
      refine (HRX.out _ HB5.out).mono ?_
      rintro e w6 ⟨hb6, rfl⟩
      rw [HBT.out]
      have HB6 := Lib.hid (below_then HB5.out hb6)
      have HF6 := Lib.hid (HF5.out.below hb6)
      have HU6 := Lib.hid (HU5.out.below hb6)
      have HR6 := Lib.hid (HRR.out.below hb6)
      clear hb6
      go_wp2_with fail
      refine (HRC.out _).mono ?_
      rintro e w7 ⟨hb7, hres⟩
      have HB7 := Lib.hid (below_then HB6.out hb7)
      have HF7 := Lib.hid (HF6.out.below hb7)
      have HU7 := Lib.hid (HU6.out.below hb7)
      have HR7 := Lib.hid (HR6.out.below hb7)
      have hco : ∃ A8 k8 c8 ok, e = .returned (.tuple #[.slice A8 k8 c8, .bool ok]) ∧ ok = (parseM s).2 ∧ (ok = true → ∃ cs, cs.length = k8 ∧ usesP cs = usesOf s ∧ Rd w7 A8 (calV cs) ∧ k8 ≤ 1048576) := by
        cases hcr : callsR s with
        | none =>
          rw [hcr] at hres
          exact ⟨none, 0, 0, false, hres, (calls_none.1 hcr).symm, fun h => by cases h⟩
        | some cs =>
          rw [hcr] at hres
          obtain ⟨A8, c8, h1, h2, h3⟩ := hres
          exact ⟨A8, cs.length, c8, true, h1, (calls_some hcr).1.symm, fun _ => ⟨cs, rfl, uses_same (calls_some hcr).2, rd_ownM h2, by have := HSM.out; omega⟩⟩
      obtain ⟨A8, k8, c8, ok, rfl, hok, hcs⟩ := hco
      have HOK := Lib.hid hok
      have HCS := Lib.hid hcs
      clear hb7 hres hok hcs
      have hx1 : (bt.toList == bt.toList) = true := by simp
      generalize hme : (macE l : Int) = me at *
      generalize hfe : (flatsE l : Int) = fe at *
      generalize hxe : (expE l s : Int) = xe at *
      clear hme hfe hxe
      go_wp2_with fail
      refine (HMC.out _ HB7.out).mono ?_
      rintro e w8 ⟨rfl, hb8⟩
      have HB8 := Lib.hid (below_then HB7.out hb8)
      have HF8 := Lib.hid (HF7.out.below hb8)
      have HR8 := Lib.hid (HR7.out.below hb8)
      have HU8 := Lib.hid (HU7.out.below hb8)
      have HC8 := Lib.hid (fun cs (h : Rd w7 A8 (calV cs)) => h.below hb8)
      clear hb8
      go_wp2_with fail
      refine (HRM.out _ HB8.out).mono ?_
      rintro e w9 ⟨rfl, hb9⟩
      have HB9 := Lib.hid (below_then HB8.out hb9)
      have HEQ := Lib.hid (macSelf_any (c1 := cF) (c2 := cR) (flatR l) w9 (HF8.out.below hb9) (HR8.out.below hb9) HKF.out hkf2)
      have HU9 := Lib.hid (HU8.out.below hb9)
      have HC9 := Lib.hid (fun cs h => (HC8.out cs h).below hb9)
      clear hb9
      go_wp2_with fail
      refine HEQ.out.mono ?_
      rintro e w10 ⟨rfl, hb10⟩
      have HB10 := Lib.hid (below_then HB9.out hb10)
      have HU10 := Lib.hid (HU9.out.below hb10)
      have HC10 := Lib.hid (fun cs h => (HC9.out cs h).below hb10)
      clear hb10
      cases ok with
      | false =>
        have hp : (parseM s).2 = false := HOK.out.symm
        have hk0 : kU = 0 := by rw [← HKU.out]; unfold usesR; rw [if_neg (by rw [hp]; decide)]; rfl
        have he3 : eU = 3 := by rw [← HUE.out]; unfold usesErr; rw [if_neg (by rw [hp]; decide)]
        subst hk0 he3
        clear hp
        go_wp2_with fail
        go_ret
        exact ⟨rfl, HB10.out⟩
      | true =>
        have hp : (parseM s).2 = true := HOK.out.symm
        obtain ⟨cs, hcl, hus, hrc, h88⟩ := HCS.out rfl
        have he0 : eU = 0 := by rw [← HUE.out]; unfold usesErr; rw [if_pos hp]
        have hur : usesR s = usesOf s := by unfold usesR; rw [if_pos hp]
        rw [hur] at HU10 HKU
        have HCD := Lib.hid (rCalled_any (c := c8) cs w10 (HC10.out cs hrc) hcl h88)
        rw [hus] at HCD
        subst he0
        have hul : kU ≤ 9223372036854775807 := by have := usesOf_len s; have := HSM.out; have := HKU.out; omega
        clear hp hcl hus hrc hur
        go_wp2_with fail
        refine HCD.out.mono ?_
        rintro e w11 ⟨A11, c11, rfl, hown11, hb11⟩
        have HB11 := Lib.hid (below_then HB10.out hb11)
        have HES := Lib.hid (slSelf_any (c1 := cU) (c2 := c11) (usesOf s) w11 (HU10.out.below hb11) (rd_ownM hown11) HKU.out hul)
        rw [HKU.out]
        clear hown11 hb11
        go_wp2_with fail
        refine HES.out.mono ?_
        rintro e w12 ⟨rfl, hb12⟩
        have HB12 := Lib.hid (below_then HB11.out hb12)
        clear hb12
        go_wp2_with fail
        go_ret
        exact ⟨rfl, HB12.out⟩
end Go.Proofs.Ytoandhhkmkgmaaa
