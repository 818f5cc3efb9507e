/- Contracts: ask.check, ask.Check, over a contract of ask.pattern that is handed in. The table of forms lies; names of at most 2^20 bytes. -/
import Derived.Test.YtcodncddaemhlaaDoorAskV
import Derived.Test.YtcodncddaemhlaaDoorAskP1
namespace Go.Proofs.YtcodncddaemhlaaDoor
open Go.RowKit

inductive AskOk : AskT → Prop
  | mk {k : Int} {s : List UInt8} {n : Int} {X : List AskT} (hs : s.length ≤ 1048576) (h : ∀ y, y ∈ X → AskOk y) : AskOk (.mk k s n X)
theorem AskOk.name {x : AskT} (h : AskOk x) : x.name.length ≤ 1048576 := by cases h with | mk hs _ => exact hs
theorem AskOk.kid {k : Int} {s : List UInt8} {n : Int} {X : List AskT} (h : AskOk (.mk k s n X)) : ∀ y ∈ X, AskOk y := by cases h with | mk _ h => exact h
def wordK (k : Int) : List UInt8 :=
  if k = 5 then [43] else if k = 6 then [94] else if k = 7 then [45] else if k = 8 ∨ k = 10 then [100, 101, 112, 115] else if k = 9 ∨ k = 11 then [117, 115, 101, 114, 115] else if k = 12 then [119, 97, 121, 115] else if k = 13 then [115, 111, 109, 101] else if k = 14 then [109, 97, 116, 99, 104] else []
/-- The table of forms, where it lies. -/
structure FTab (w : World) : Prop where
  u8 : Lib.Utf8Tabs 2 3 w
  lt : 0 < w.heap.size
  at_ : ∀ k : Nat, 1 ≤ k → k ≤ 15 → w.cell? ⟨0, k * 4, none⟩ = some (.int .i64 (manyK k : Nat)) ∧ w.cell? ⟨0, k * 4 + 1, none⟩ = some (.bool (namedK k)) ∧ w.cell? ⟨0, k * 4 + 2, none⟩ = some (.bool (numK k)) ∧ w.cell? ⟨0, k * 4 + 3, none⟩ = some (.string ⟨(wordK k).toArray⟩)
theorem FTab.below {w w' : World} (h : FTab w) (hb : Below w.heap.size w w') : FTab w' :=
  ⟨Utf8Tabs_below h.u8 hb, Nat.lt_of_lt_of_le h.lt hb.size, fun k h1 h2 => ⟨cell_keptA (h.at_ k h1 h2).1 hb, cell_keptA (h.at_ k h1 h2).2.1 hb, cell_keptA (h.at_ k h1 h2).2.2.1 hb, cell_keptA (h.at_ k h1 h2).2.2.2 hb⟩⟩
theorem node_out {k : Int} {s : List UInt8} {n : Int} {m : Nat} (h : k < 1 ∨ 15 < k) : nodeE k s n m = 1 := by unfold nodeE; rw [if_pos h]
theorem node_form {k : Int} {s : List UInt8} {n : Int} {m : Nat} (h : ¬ (k < 1 ∨ 15 < k)) (h2 : m ≠ manyK k ∨ (namedK k = false ∧ s ≠ []) ∨ (numK k = false ∧ n ≠ 0)) : nodeE k s n m = 1 := by unfold nodeE; rw [if_neg h, if_pos h2]
theorem node_in {k : Int} {s : List UInt8} {n : Int} {m : Nat} (h : ¬ (k < 1 ∨ 15 < k)) (h2 : ¬ (m ≠ manyK k ∨ (namedK k = false ∧ s ≠ []) ∨ (numK k = false ∧ n ≠ 0))) :
    nodeE k s n m = if k = 14 then (if patB s = false then 3 else 0) else if namedK k = true then (if goodName s = false ∨ (k = 1 ∧ s = letS) then 3 else 0) else if k = 15 then (if n < 1 ∨ 3 < n then 4 else 0) else if n < 0 ∨ 100 < n then 4 else 0 := by
  unfold nodeE; rw [if_neg h, if_neg h2]
theorem emp_sv (s : List UInt8) : ((⟨s.toArray⟩ : ByteArray).toList.isEmpty) = decide (s = []) := by
  rw [Lib.toList_data]
  cases s <;> rfl
set_option maxRecDepth 100000 in
set_option maxHeartbeats 4000000 in
theorem aChk_any : ∀ (x : AskT) (A : Option Addr) (c : Nat) (w : World), AskAt w x A c → AskOk x → sizeA x ≤ 1152921504606846976 → FTab w → Calls Tryd.prog 25 #[askV x A c] w (CntPost (faultA x) w) := by
  refine askT_ind fun k s n X ih A c w hA hok hs hF => ?_
  have HIH := Lib.hid ih
  have HA := Lib.hid hA
  have HOK := Lib.hid hok
  have HF := Lib.hid hF
  have HSZ := Lib.hid (sizeA_mk k s n X)
  have HS : Hid ((X.map sizeA).sum ≤ 1152921504606846976) := Lib.hid (by rw [HSZ.out] at hs; omega)
  have hm' : X.length ≤ 9223372036854775807 := by have := kids_le X; have := HS.out; omega
  have HFA := Lib.hid (faultA_mk k s n X)
  have CNM := Lib.hid (fun W => nmCheck_any s W (by have := hok.name; show s.length ≤ _; have h : s.length ≤ 1048576 := this; omega))
  have CPA := Lib.hid (fun W hT => pattern_any s W hok.name hT)
  unfold sv at CNM
  have HEMP := Lib.hid (emp_sv s)
  have HLET := Lib.hid (eq_sv s letS)
  obtain ⟨y, hy⟩ := boxA_new w (.int .i64 k) (.string ⟨s.toArray⟩) (.int .i64 n) (.slice A X.length c) 24
  have Y := Lib.hid y
  have HY := Lib.hid hy
  clear ih hA hs y hy hok hF
  unfold askV
  simp only [AskT.kind, AskT.name, AskT.n, AskT.X]
  rw [HFA.out]
  generalize hE : nodeE k s n X.length = E at *
  have HE := Lib.hid hE
  have HN1 := Lib.hid (fun h => (hE.symm.trans (node_out (k := k) (s := s) (n := n) (m := X.length) h)))
  have HN2 := Lib.hid (fun h h2 => (hE.symm.trans (node_form (k := k) (s := s) (n := n) (m := X.length) h h2)))
  have HN3 := Lib.hid (fun h h2 => (hE.symm.trans (node_in (k := k) (s := s) (n := n) (m := X.length) h h2)))
  clear hE
  generalize hR : (if E ≠ 0 then E else firstNZ (X.map faultA)) = R at *
  have HR1 : Hid (E ≠ 0 → R = E) := Lib.hid (fun h => by rw [← hR, if_pos h])
  have HR0 : Hid (E = 0 → R = firstNZ (X.map faultA)) := Lib.hid (fun h => by rw [← hR, if_neg (fun e => e h)])
  clear hR
  generalize hbs : (⟨s.toArray⟩ : ByteArray) = bs at *
  clear hbs
  go_enter Tryd.func25, Tryd.ntmps25
  go_upto_region 1 with fail
  generalize w.alloc (.cells #[.int .i64 k, .string bs, .int .i64 n, .slice A X.length c] 24) = w0 at *
  obtain ⟨y1, y2, y3, y4⟩ := Y.out
  by_cases hk1 : k < 1
  · have HV : Hid ((1 : Int) = (R : Int)) := Lib.hid (by rw [HR1.out (by rw [HN1.out (.inl hk1)]; decide), HN1.out (.inl hk1)]; rfl)
    go_wp2_with fail
    go_ret
    exact ⟨ret_int HV.out, HY.out⟩
  by_cases hk2 : 15 < k
  · have HV : Hid ((1 : Int) = (R : Int)) := Lib.hid (by rw [HR1.out (by rw [HN1.out (.inr hk2)]; decide), HN1.out (.inr hk2)]; rfl)
    go_wp2_with fail
    go_ret
    exact ⟨ret_int HV.out, HY.out⟩
  have HNK : Hid (¬ (k < 1 ∨ 15 < k)) := Lib.hid (fun h => h.elim hk1 hk2)
  obtain ⟨q, hq⟩ : ∃ q : Nat, k = (q : Int) := ⟨k.toNat, by omega⟩
  subst hq
  have hq1 : 1 ≤ q := by omega
  have hq2 : q ≤ 15 := by omega
  obtain ⟨f1, f2, f3, f4⟩ := (HF.out.below HY.out).at_ q hq1 hq2
  have hq3 : (q : Int) < 16 := by omega
  have hq4 : (0 : Int) ≤ (q : Int) := by omega
  generalize hmk : manyK (q : Int) = mk at *
  generalize hnb : namedK (q : Int) = nb at *
  generalize hub : numK (q : Int) = ub at *
  have HMK := Lib.hid hmk
  have HNB := Lib.hid hnb
  have HUB := Lib.hid hub
  generalize (⟨(wordK (q : Int)).toArray⟩ : ByteArray) = wd at *
  clear hmk hnb hub
  obtain ⟨z, hz⟩ := boxA_new w0 (.int .i64 (mk : Int)) (.bool nb) (.bool ub) (.string wd) 56
  have Z := Lib.hid z
  have HZ := Lib.hid (below_newA HY.out hz)
  have Y1 := Lib.hid (Y.out.below hz)
  clear z hz
  go_upto_region 4 with fail
  generalize w0.alloc (.cells #[.int .i64 (mk : Int), .bool nb, .bool ub, .string wd] 56) = w1 at *
  generalize w0.heap.size = BF at *
  obtain ⟨y1, y2, y3, y4⟩ := Y1.out
  obtain ⟨z1, z2, z3, z4⟩ := Z.out
  -- the form fits, or not
  have hcs : (decide (X.length = mk) = false) ∨ (decide (X.length = mk) = true ∧ nb = false ∧ decide (s = []) = false) ∨ ((decide (X.length = mk) = true ∧ (nb = true ∨ (nb = false ∧ decide (s = []) = true))) ∧ ub = false ∧ decide (n = 0) = false) ∨
      ((decide (X.length = mk) = true ∧ (nb = true ∨ (nb = false ∧ decide (s = []) = true))) ∧ (ub = true ∨ (ub = false ∧ decide (n = 0) = true))) := by
    cases decide (X.length = mk) <;> cases nb <;> cases ub <;> cases decide (s = []) <;> cases decide (n = 0) <;> simp
  have HN2' := Lib.hid (fun h2 => HN2.out HNK.out h2)
  have HN3' := Lib.hid (fun h2 => HN3.out HNK.out h2)
  have mmI : ∀ b : Bool, decide (X.length = mk) = b → (((X.length : Int) != (mk : Int)) = !b) := fun b hb => by
    subst hb
    by_cases h : X.length = mk
    · simp [h]
    · have : ¬ (X.length : Int) = (mk : Int) := by omega
      simp [h, this]
  have MM := Lib.hid mmI
  clear mmI
  rcases hcs with h1 | ⟨h1, h2, h3⟩ | ⟨⟨h1, h2⟩, h3, h4⟩ | ⟨⟨h1, h2⟩, h3⟩
  · have HV : Hid ((1 : Int) = (R : Int)) := Lib.hid (by
      have h := HN2'.out (.inl (of_decide_eq_false h1))
      rw [HR1.out (by rw [h]; decide), h]; rfl)
    have m1 := MM.out false h1
    simp only [Bool.not_false] at m1
    clear h1
    go_wp2_with fail
    go_ret
    exact ⟨ret_int HV.out, HZ.out⟩
  · have HV : Hid ((1 : Int) = (R : Int)) := Lib.hid (by
      have h := HN2'.out (.inr (.inl ⟨h2, of_decide_eq_false h3⟩))
      rw [HR1.out (by rw [h]; decide), h]; rfl)
    have m1 := MM.out true h1
    have m2 := HEMP.out.trans h3
    simp only [Bool.not_true] at m1
    subst h2
    clear h1 h3
    go_wp2_with fail
    go_ret
    exact ⟨ret_int HV.out, HZ.out⟩
  · have HV : Hid ((1 : Int) = (R : Int)) := Lib.hid (by
      have h := HN2'.out (.inr (.inr ⟨h3, of_decide_eq_false h4⟩))
      rw [HR1.out (by rw [h]; decide), h]; rfl)
    have m1 := MM.out true h1
    have m4 : (n == 0) = false := by simpa using h4
    simp only [Bool.not_true] at m1
    subst h3
    clear h1 h4
    rcases h2 with rfl | ⟨rfl, h3⟩
    · go_wp2_with fail
      go_ret
      exact ⟨ret_int HV.out, HZ.out⟩
    · have m2 := HEMP.out.trans h3
      clear h3
      go_wp2_with fail
      go_ret
      exact ⟨ret_int HV.out, HZ.out⟩
  · -- the form fits
    have HNI : Hid (¬ (X.length ≠ mk ∨ (nb = false ∧ s ≠ []) ∨ (ub = false ∧ n ≠ 0))) := Lib.hid (by
      have h1' := of_decide_eq_true h1
      rintro (h | ⟨h, h'⟩ | ⟨h, h'⟩)
      · exact h h1'
      · rcases h2 with h2 | ⟨_, h2⟩
        · rw [h2] at h; cases h
        · exact h' (of_decide_eq_true h2)
      · rcases h3 with h3 | ⟨_, h3⟩
        · rw [h3] at h; cases h
        · exact h' (of_decide_eq_true h3))
    have HEQ := Lib.hid (HN3'.out HNI.out)
    have m1 := MM.out true h1
    simp only [Bool.not_true] at m1
    clear h1
    rcases h2 with rfl | ⟨rfl, h2⟩
    · -- named
      have hub : ub = false := by
        have h1 := HNB.out
        have h2 := HUB.out
        unfold namedK at h1
        unfold numK at h2
        rw [← h2]
        simp at h1 ⊢
        omega
      have h30 : decide (n = 0) = true := by
        rcases h3 with h3 | ⟨_, h3⟩
        · rw [hub] at h3; cases h3
        · exact h3
      have m3 : (n == 0) = true := by simpa using h30
      subst hub
      clear h3 h30
      by_cases h14 : q = 14
      · have k14 : ((q : Int) == 14) = true := by simp; omega
        have HPE : Hid (E = if patB s = false then 3 else 0) := Lib.hid (by rw [HEQ.out, if_pos (by omega)])
        clear h14
        cases hp : patB s with
        | false =>
          have HV : Hid ((3 : Int) = (R : Int)) := Lib.hid (by
            have h := HPE.out
            rw [hp] at h
            rw [HR1.out (by rw [h]; decide), h]; rfl)
          rw [hp] at CPA
          clear hp
          go_wp2_with fail
          refine (CPA.out _ (HF.out.below HZ.out).u8).mono ?_
          rintro e w2 ⟨rfl, hb2⟩
          have HB2 := Lib.hid (below_newA HZ.out hb2)
          clear hb2 y1 y2 y3 y4 z1 z2 z3 z4
          go_wp2_with fail
          go_ret
          exact ⟨ret_int HV.out, HB2.out⟩
        | true =>
          have HE0 : Hid (E = 0) := Lib.hid (by rw [HPE.out, hp]; rfl)
          rw [hp] at CPA
          clear hp
          go_wp2_with fail
          refine (CPA.out _ (HF.out.below HZ.out).u8).mono ?_
          rintro e w2 ⟨rfl, hb2⟩
          have HB2 := Lib.hid (below_newA HZ.out hb2)
          have Y2 := Lib.hid (Y1.out.below hb2)
          clear hb2 y1 y2 y3 y4 z1 z2 z3 z4
          obtain ⟨y1, y2, y3, y4⟩ := Y2.out
          have HRT := Lib.hid (HR0.out HE0.out)
          go_wp2_with fail
          go_loopw [5, 6, 94] (fun _ _ i wr => ∃ (j : Nat), i = .int .i64 (j : Int) ∧ j ≤ X.length ∧ Hid (∀ v ∈ (X.map faultA).take j, v = 0) ∧ Hid (Below w.heap.size w wr)) (fun _ _ i _ => X.length - (intOf i).toNat)
          case atStart => exact ⟨0, rfl, by omega, Lib.hid (by simp), Lib.hid (HB2.out)⟩
          case round =>
            obtain ⟨j, rfl, hj, HP, HB⟩ := hrel
            by_cases hlt : j < X.length
            · obtain ⟨x, hx⟩ : ∃ x, X[j]? = some x := ⟨_, List.getElem?_eq_getElem hlt⟩
              obtain ⟨b, off, A', c', rfl, e1, e2, e3, e4, hch⟩ := AskAt.child (AskAt.keep HB.out _ _ _ HA.out) hx
              have hms : (X.map faultA)[j]? = some (faultA x) := by rw [List.getElem?_map, hx]; rfl
              have HMS := Lib.hid hms
              have HXS : Hid (sizeA x ≤ 1152921504606846976) := Lib.hid (by
                have h1 : (X.map sizeA)[j]? = some (sizeA x) := by rw [List.getElem?_map, hx]; rfl
                have h2 := sum_take_succ h1
                have h3 := sum_take_le (X.map sizeA) (j + 1)
                have := HS.out
                omega)
              have HP2 : Hid (faultA x = 0 → ∀ v ∈ (X.map faultA).take (j + 1), v = 0) := Lib.hid (fun h0 v hv => by
                rw [List.take_add_one, HMS.out] at hv
                rcases List.mem_append.1 hv with hv | hv
                · exact HP.out v hv
                · rw [List.mem_singleton.1 hv]; exact h0)
              obtain ⟨u, hu⟩ := boxA_new wr (.int .i64 x.kind) (.string ⟨x.name.toArray⟩) (.int .i64 x.n) (.slice A' x.X.length c') 24
              have U := Lib.hid u
              have HU := Lib.hid (below_newA HB.out hu)
              have HC := Lib.hid (HIH.out x (List.mem_of_getElem? hx) A' c' _ (AskAt.keep hu _ _ _ hch) (HOK.out.kid x (List.mem_of_getElem? hx)) HXS.out (HF.out.below HU.out))
              unfold askV CntPost at HC
              have hj1 : (j : Int) < (X.length : Int) := by omega
              clear hx hch hms u hu
              generalize hbx : (⟨x.name.toArray⟩ : ByteArray) = bx at *
              clear hbx
              generalize x.kind = xk at *
              generalize x.n = xn at *
              generalize x.X.length = xm at *
              generalize faultA x = xf at *
              go_upto_region 20 with fail
              generalize wr.alloc (.cells #[.int .i64 xk, .string bx, .int .i64 xn, .slice A' xm c'] 24) = w5 at *
              obtain ⟨u1, u2, u3, u4⟩ := U.out
              go_wp2_with fail
              refine HC.out.mono ?_
              rintro e w6 ⟨rfl, hb6⟩
              have HB6 := Lib.hid (below_newA HU.out hb6)
              clear hb6 u1 u2 u3 u4
              by_cases hx0 : xf = 0
              · subst hx0
                have HP3 := Lib.hid (HP2.out rfl)
                go_wp2_with fail
                exact ⟨⟨j + 1, rfl, by omega, HP3, HB6⟩, measA hlt⟩
              · have HV : Hid ((xf : Int) = (R : Int)) := Lib.hid (by rw [HRT.out, firstNZ_at HMS.out HP.out hx0])
                have hn0 : ((xf : Int) != 0) = true := by simp; omega
                clear hx0
                go_wp2_with fail
                go_ret
                exact ⟨ret_int HV.out, HB6.out⟩
            · obtain rfl : j = X.length := by omega
              have HV : Hid ((0 : Int) = (R : Int)) := Lib.hid (by rw [HRT.out, firstNZ_zero (fun v hv => HP.out v (by rw [List.take_of_length_le (by simp)]; exact hv))]; rfl)
              go_wp2_with fail
              go_ret
              exact ⟨ret_int HV.out, HB.out⟩
      · have k14 : ((q : Int) == 14) = false := by simp; omega
        have HPE : Hid (E = if goodName s = false ∨ ((q : Int) = 1 ∧ s = letS) then 3 else 0) := Lib.hid (by rw [HEQ.out, if_neg (by omega), if_pos rfl])
        clear h14
        cases hp : goodName s with
        | false =>
          have HV : Hid ((3 : Int) = (R : Int)) := Lib.hid (by
            have h := HPE.out
            rw [if_pos (.inl hp)] at h
            rw [HR1.out (by rw [h]; decide), h]; rfl)
          have hne : nameErr s = 3 := by unfold nameErr; rw [hp]; rfl
          rw [hne] at CNM
          clear hp hne
          go_wp2_with fail
          refine (CNM.out _).mono ?_
          rintro e w2 ⟨rfl, rfl⟩
          go_wp2_with fail
          go_ret
          exact ⟨ret_int HV.out, HZ.out⟩
        | true =>
          have hne : nameErr s = 0 := by unfold nameErr; rw [hp]; rfl
          rw [hne] at CNM
          have HG := Lib.hid hp
          clear hp hne
          by_cases hq1' : q = 1
          · have k1 : ((q : Int) == 1) = true := by simp; omega
            by_cases hl : s = letS
            · have HV : Hid ((3 : Int) = (R : Int)) := Lib.hid (by
                have h := HPE.out
                rw [if_pos (.inr ⟨by omega, hl⟩)] at h
                rw [HR1.out (by rw [h]; decide), h]; rfl)
              have hle : (bs.toList == (⟨#[108, 101, 116]⟩ : ByteArray).toList) = true := HLET.out.trans (decide_eq_true hl)
              have hle2 : (bs.toList == [108, 101, 116]) = true := by rw [← hle, Lib.toList_data (⟨#[108, 101, 116]⟩ : ByteArray)]
              clear hl hq1'
              go_wp2_with fail
              refine (CNM.out _).mono ?_
              rintro e w2 ⟨rfl, rfl⟩
              go_wp2_with fail
              go_ret
              exact ⟨ret_int HV.out, HZ.out⟩
            · have HE0 : Hid (E = 0) := Lib.hid (by rw [HPE.out, if_neg (fun e => e.elim (fun e => by rw [HG.out] at e; cases e) (fun e => hl e.2))])
              have hle : (bs.toList == (⟨#[108, 101, 116]⟩ : ByteArray).toList) = false := HLET.out.trans (decide_eq_false hl)
              have hle2 : (bs.toList == [108, 101, 116]) = false := by rw [← hle, Lib.toList_data (⟨#[108, 101, 116]⟩ : ByteArray)]
              clear hl hq1'
              go_wp2_with fail
              refine (CNM.out _).mono ?_
              rintro e w2 ⟨rfl, rfl⟩
              have HRT := Lib.hid (HR0.out HE0.out)
              go_wp2_with fail
              go_loopw [5, 6, 94] (fun _ _ i wr => ∃ (j : Nat), i = .int .i64 (j : Int) ∧ j ≤ X.length ∧ Hid (∀ v ∈ (X.map faultA).take j, v = 0) ∧ Hid (Below w.heap.size w wr)) (fun _ _ i _ => X.length - (intOf i).toNat)
              case atStart => exact ⟨0, rfl, by omega, Lib.hid (by simp), Lib.hid (HZ.out)⟩
              case round =>
                obtain ⟨j, rfl, hj, HP, HB⟩ := hrel
                by_cases hlt : j < X.length
                · obtain ⟨x, hx⟩ : ∃ x, X[j]? = some x := ⟨_, List.getElem?_eq_getElem hlt⟩
                  obtain ⟨b, off, A', c', rfl, e1, e2, e3, e4, hch⟩ := AskAt.child (AskAt.keep HB.out _ _ _ HA.out) hx
                  have hms : (X.map faultA)[j]? = some (faultA x) := by rw [List.getElem?_map, hx]; rfl
                  have HMS := Lib.hid hms
                  have HXS : Hid (sizeA x ≤ 1152921504606846976) := Lib.hid (by
                    have h1 : (X.map sizeA)[j]? = some (sizeA x) := by rw [List.getElem?_map, hx]; rfl
                    have h2 := sum_take_succ h1
                    have h3 := sum_take_le (X.map sizeA) (j + 1)
                    have := HS.out
                    omega)
                  have HP2 : Hid (faultA x = 0 → ∀ v ∈ (X.map faultA).take (j + 1), v = 0) := Lib.hid (fun h0 v hv => by
                    rw [List.take_add_one, HMS.out] at hv
                    rcases List.mem_append.1 hv with hv | hv
                    · exact HP.out v hv
                    · rw [List.mem_singleton.1 hv]; exact h0)
                  obtain ⟨u, hu⟩ := boxA_new wr (.int .i64 x.kind) (.string ⟨x.name.toArray⟩) (.int .i64 x.n) (.slice A' x.X.length c') 24
                  have U := Lib.hid u
                  have HU := Lib.hid (below_newA HB.out hu)
                  have HC := Lib.hid (HIH.out x (List.mem_of_getElem? hx) A' c' _ (AskAt.keep hu _ _ _ hch) (HOK.out.kid x (List.mem_of_getElem? hx)) HXS.out (HF.out.below HU.out))
                  unfold askV CntPost at HC
                  have hj1 : (j : Int) < (X.length : Int) := by omega
                  clear hx hch hms u hu
                  generalize hbx : (⟨x.name.toArray⟩ : ByteArray) = bx at *
                  clear hbx
                  generalize x.kind = xk at *
                  generalize x.n = xn at *
                  generalize x.X.length = xm at *
                  generalize faultA x = xf at *
                  go_upto_region 20 with fail
                  generalize wr.alloc (.cells #[.int .i64 xk, .string bx, .int .i64 xn, .slice A' xm c'] 24) = w5 at *
                  obtain ⟨u1, u2, u3, u4⟩ := U.out
                  go_wp2_with fail
                  refine HC.out.mono ?_
                  rintro e w6 ⟨rfl, hb6⟩
                  have HB6 := Lib.hid (below_newA HU.out hb6)
                  clear hb6 u1 u2 u3 u4
                  by_cases hx0 : xf = 0
                  · subst hx0
                    have HP3 := Lib.hid (HP2.out rfl)
                    go_wp2_with fail
                    exact ⟨⟨j + 1, rfl, by omega, HP3, HB6⟩, measA hlt⟩
                  · have HV : Hid ((xf : Int) = (R : Int)) := Lib.hid (by rw [HRT.out, firstNZ_at HMS.out HP.out hx0])
                    have hn0 : ((xf : Int) != 0) = true := by simp; omega
                    clear hx0
                    go_wp2_with fail
                    go_ret
                    exact ⟨ret_int HV.out, HB6.out⟩
                · obtain rfl : j = X.length := by omega
                  have HV : Hid ((0 : Int) = (R : Int)) := Lib.hid (by rw [HRT.out, firstNZ_zero (fun v hv => HP.out v (by rw [List.take_of_length_le (by simp)]; exact hv))]; rfl)
                  go_wp2_with fail
                  go_ret
                  exact ⟨ret_int HV.out, HB.out⟩
          · have k1 : ((q : Int) == 1) = false := by simp; omega
            have HE0 : Hid (E = 0) := Lib.hid (by rw [HPE.out, if_neg (fun e => e.elim (fun e => by rw [HG.out] at e; cases e) (fun e => hq1' (by omega)))])
            clear hq1'
            go_wp2_with fail
            refine (CNM.out _).mono ?_
            rintro e w2 ⟨rfl, rfl⟩
            have HRT := Lib.hid (HR0.out HE0.out)
            go_wp2_with fail
            go_loopw [5, 6, 94] (fun _ _ i wr => ∃ (j : Nat), i = .int .i64 (j : Int) ∧ j ≤ X.length ∧ Hid (∀ v ∈ (X.map faultA).take j, v = 0) ∧ Hid (Below w.heap.size w wr)) (fun _ _ i _ => X.length - (intOf i).toNat)
            case atStart => exact ⟨0, rfl, by omega, Lib.hid (by simp), Lib.hid (HZ.out)⟩
            case round =>
              obtain ⟨j, rfl, hj, HP, HB⟩ := hrel
              by_cases hlt : j < X.length
              · obtain ⟨x, hx⟩ : ∃ x, X[j]? = some x := ⟨_, List.getElem?_eq_getElem hlt⟩
                obtain ⟨b, off, A', c', rfl, e1, e2, e3, e4, hch⟩ := AskAt.child (AskAt.keep HB.out _ _ _ HA.out) hx
                have hms : (X.map faultA)[j]? = some (faultA x) := by rw [List.getElem?_map, hx]; rfl
                have HMS := Lib.hid hms
                have HXS : Hid (sizeA x ≤ 1152921504606846976) := Lib.hid (by
                  have h1 : (X.map sizeA)[j]? = some (sizeA x) := by rw [List.getElem?_map, hx]; rfl
                  have h2 := sum_take_succ h1
                  have h3 := sum_take_le (X.map sizeA) (j + 1)
                  have := HS.out
                  omega)
                have HP2 : Hid (faultA x = 0 → ∀ v ∈ (X.map faultA).take (j + 1), v = 0) := Lib.hid (fun h0 v hv => by
                  rw [List.take_add_one, HMS.out] at hv
                  rcases List.mem_append.1 hv with hv | hv
                  · exact HP.out v hv
                  · rw [List.mem_singleton.1 hv]; exact h0)
                obtain ⟨u, hu⟩ := boxA_new wr (.int .i64 x.kind) (.string ⟨x.name.toArray⟩) (.int .i64 x.n) (.slice A' x.X.length c') 24
                have U := Lib.hid u
                have HU := Lib.hid (below_newA HB.out hu)
                have HC := Lib.hid (HIH.out x (List.mem_of_getElem? hx) A' c' _ (AskAt.keep hu _ _ _ hch) (HOK.out.kid x (List.mem_of_getElem? hx)) HXS.out (HF.out.below HU.out))
                unfold askV CntPost at HC
                have hj1 : (j : Int) < (X.length : Int) := by omega
                clear hx hch hms u hu
                generalize hbx : (⟨x.name.toArray⟩ : ByteArray) = bx at *
                clear hbx
                generalize x.kind = xk at *
                generalize x.n = xn at *
                generalize x.X.length = xm at *
                generalize faultA x = xf at *
                go_upto_region 20 with fail
                generalize wr.alloc (.cells #[.int .i64 xk, .string bx, .int .i64 xn, .slice A' xm c'] 24) = w5 at *
                obtain ⟨u1, u2, u3, u4⟩ := U.out
                go_wp2_with fail
                refine HC.out.mono ?_
                rintro e w6 ⟨rfl, hb6⟩
                have HB6 := Lib.hid (below_newA HU.out hb6)
                clear hb6 u1 u2 u3 u4
                by_cases hx0 : xf = 0
                · subst hx0
                  have HP3 := Lib.hid (HP2.out rfl)
                  go_wp2_with fail
                  exact ⟨⟨j + 1, rfl, by omega, HP3, HB6⟩, measA hlt⟩
                · have HV : Hid ((xf : Int) = (R : Int)) := Lib.hid (by rw [HRT.out, firstNZ_at HMS.out HP.out hx0])
                  have hn0 : ((xf : Int) != 0) = true := by simp; omega
                  clear hx0
                  go_wp2_with fail
                  go_ret
                  exact ⟨ret_int HV.out, HB6.out⟩
              · obtain rfl : j = X.length := by omega
                have HV : Hid ((0 : Int) = (R : Int)) := Lib.hid (by rw [HRT.out, firstNZ_zero (fun v hv => HP.out v (by rw [List.take_of_length_le (by simp)]; exact hv))]; rfl)
                go_wp2_with fail
                go_ret
                exact ⟨ret_int HV.out, HB.out⟩
    · -- not named
      have m2 := HEMP.out.trans h2
      have h14 : ¬ (q : Int) = 14 := fun e => by have h := HNB.out; rw [e] at h; revert h; decide
      have k14 : ((q : Int) == 14) = false := by simp; omega
      have HPE : Hid (E = if (q : Int) = 15 then (if n < 1 ∨ 3 < n then 4 else 0) else if n < 0 ∨ 100 < n then 4 else 0) := Lib.hid (by rw [HEQ.out, if_neg h14, if_neg (by decide)])
      clear h2 h14
      rcases h3 with rfl | ⟨rfl, h3⟩
      · by_cases h15 : (q : Int) = 15
        · have k15 : ((q : Int) == 15) = true := by simp [h15]
          rw [if_pos h15] at HPE
          clear h15
          by_cases hn1 : n < 1
          · have HE4 : Hid (E = 4) := Lib.hid (by rw [HPE.out, if_pos (.inl hn1)])
            have HV : Hid ((4 : Int) = (R : Int)) := Lib.hid (by
              have h := HE4.out
              rw [HR1.out (by rw [h]; decide), h]; rfl)
            go_wp2_with fail
            go_ret
            exact ⟨ret_int HV.out, HZ.out⟩
          by_cases hn2 : 3 < n
          · have HE4 : Hid (E = 4) := Lib.hid (by rw [HPE.out, if_pos (.inr hn2)])
            have HV : Hid ((4 : Int) = (R : Int)) := Lib.hid (by
              have h := HE4.out
              rw [HR1.out (by rw [h]; decide), h]; rfl)
            go_wp2_with fail
            go_ret
            exact ⟨ret_int HV.out, HZ.out⟩
          have HE0 : Hid (E = 0) := Lib.hid (by rw [HPE.out, if_neg (fun e => e.elim hn1 hn2)])
          have HRT := Lib.hid (HR0.out HE0.out)
          go_wp2_with fail
          go_loopw [5, 6, 94] (fun _ _ i wr => ∃ (j : Nat), i = .int .i64 (j : Int) ∧ j ≤ X.length ∧ Hid (∀ v ∈ (X.map faultA).take j, v = 0) ∧ Hid (Below w.heap.size w wr)) (fun _ _ i _ => X.length - (intOf i).toNat)
          case atStart => exact ⟨0, rfl, by omega, Lib.hid (by simp), Lib.hid (HZ.out)⟩
          case round =>
            obtain ⟨j, rfl, hj, HP, HB⟩ := hrel
            by_cases hlt : j < X.length
            · obtain ⟨x, hx⟩ : ∃ x, X[j]? = some x := ⟨_, List.getElem?_eq_getElem hlt⟩
              obtain ⟨b, off, A', c', rfl, e1, e2, e3, e4, hch⟩ := AskAt.child (AskAt.keep HB.out _ _ _ HA.out) hx
              have hms : (X.map faultA)[j]? = some (faultA x) := by rw [List.getElem?_map, hx]; rfl
              have HMS := Lib.hid hms
              have HXS : Hid (sizeA x ≤ 1152921504606846976) := Lib.hid (by
                have h1 : (X.map sizeA)[j]? = some (sizeA x) := by rw [List.getElem?_map, hx]; rfl
                have h2 := sum_take_succ h1
                have h3 := sum_take_le (X.map sizeA) (j + 1)
                have := HS.out
                omega)
              have HP2 : Hid (faultA x = 0 → ∀ v ∈ (X.map faultA).take (j + 1), v = 0) := Lib.hid (fun h0 v hv => by
                rw [List.take_add_one, HMS.out] at hv
                rcases List.mem_append.1 hv with hv | hv
                · exact HP.out v hv
                · rw [List.mem_singleton.1 hv]; exact h0)
              obtain ⟨u, hu⟩ := boxA_new wr (.int .i64 x.kind) (.string ⟨x.name.toArray⟩) (.int .i64 x.n) (.slice A' x.X.length c') 24
              have U := Lib.hid u
              have HU := Lib.hid (below_newA HB.out hu)
              have HC := Lib.hid (HIH.out x (List.mem_of_getElem? hx) A' c' _ (AskAt.keep hu _ _ _ hch) (HOK.out.kid x (List.mem_of_getElem? hx)) HXS.out (HF.out.below HU.out))
              unfold askV CntPost at HC
              have hj1 : (j : Int) < (X.length : Int) := by omega
              clear hx hch hms u hu
              generalize hbx : (⟨x.name.toArray⟩ : ByteArray) = bx at *
              clear hbx
              generalize x.kind = xk at *
              generalize x.n = xn at *
              generalize x.X.length = xm at *
              generalize faultA x = xf at *
              go_upto_region 20 with fail
              generalize wr.alloc (.cells #[.int .i64 xk, .string bx, .int .i64 xn, .slice A' xm c'] 24) = w5 at *
              obtain ⟨u1, u2, u3, u4⟩ := U.out
              go_wp2_with fail
              refine HC.out.mono ?_
              rintro e w6 ⟨rfl, hb6⟩
              have HB6 := Lib.hid (below_newA HU.out hb6)
              clear hb6 u1 u2 u3 u4
              by_cases hx0 : xf = 0
              · subst hx0
                have HP3 := Lib.hid (HP2.out rfl)
                go_wp2_with fail
                exact ⟨⟨j + 1, rfl, by omega, HP3, HB6⟩, measA hlt⟩
              · have HV : Hid ((xf : Int) = (R : Int)) := Lib.hid (by rw [HRT.out, firstNZ_at HMS.out HP.out hx0])
                have hn0 : ((xf : Int) != 0) = true := by simp; omega
                clear hx0
                go_wp2_with fail
                go_ret
                exact ⟨ret_int HV.out, HB6.out⟩
            · obtain rfl : j = X.length := by omega
              have HV : Hid ((0 : Int) = (R : Int)) := Lib.hid (by rw [HRT.out, firstNZ_zero (fun v hv => HP.out v (by rw [List.take_of_length_le (by simp)]; exact hv))]; rfl)
              go_wp2_with fail
              go_ret
              exact ⟨ret_int HV.out, HB.out⟩
        · have k15 : ((q : Int) == 15) = false := by simp [h15]
          rw [if_neg h15] at HPE
          clear h15
          by_cases hn1 : n < 0
          · have HE4 : Hid (E = 4) := Lib.hid (by rw [HPE.out, if_pos (.inl hn1)])
            have HV : Hid ((4 : Int) = (R : Int)) := Lib.hid (by
              have h := HE4.out
              rw [HR1.out (by rw [h]; decide), h]; rfl)
            go_wp2_with fail
            go_ret
            exact ⟨ret_int HV.out, HZ.out⟩
          by_cases hn2 : 100 < n
          · have HE4 : Hid (E = 4) := Lib.hid (by rw [HPE.out, if_pos (.inr hn2)])
            have HV : Hid ((4 : Int) = (R : Int)) := Lib.hid (by
              have h := HE4.out
              rw [HR1.out (by rw [h]; decide), h]; rfl)
            go_wp2_with fail
            go_ret
            exact ⟨ret_int HV.out, HZ.out⟩
          have HE0 : Hid (E = 0) := Lib.hid (by rw [HPE.out, if_neg (fun e => e.elim hn1 hn2)])
          have HRT := Lib.hid (HR0.out HE0.out)
          go_wp2_with fail
          go_loopw [5, 6, 94] (fun _ _ i wr => ∃ (j : Nat), i = .int .i64 (j : Int) ∧ j ≤ X.length ∧ Hid (∀ v ∈ (X.map faultA).take j, v = 0) ∧ Hid (Below w.heap.size w wr)) (fun _ _ i _ => X.length - (intOf i).toNat)
          case atStart => exact ⟨0, rfl, by omega, Lib.hid (by simp), Lib.hid (HZ.out)⟩
          case round =>
            obtain ⟨j, rfl, hj, HP, HB⟩ := hrel
            by_cases hlt : j < X.length
            · obtain ⟨x, hx⟩ : ∃ x, X[j]? = some x := ⟨_, List.getElem?_eq_getElem hlt⟩
              obtain ⟨b, off, A', c', rfl, e1, e2, e3, e4, hch⟩ := AskAt.child (AskAt.keep HB.out _ _ _ HA.out) hx
              have hms : (X.map faultA)[j]? = some (faultA x) := by rw [List.getElem?_map, hx]; rfl
              have HMS := Lib.hid hms
              have HXS : Hid (sizeA x ≤ 1152921504606846976) := Lib.hid (by
                have h1 : (X.map sizeA)[j]? = some (sizeA x) := by rw [List.getElem?_map, hx]; rfl
                have h2 := sum_take_succ h1
                have h3 := sum_take_le (X.map sizeA) (j + 1)
                have := HS.out
                omega)
              have HP2 : Hid (faultA x = 0 → ∀ v ∈ (X.map faultA).take (j + 1), v = 0) := Lib.hid (fun h0 v hv => by
                rw [List.take_add_one, HMS.out] at hv
                rcases List.mem_append.1 hv with hv | hv
                · exact HP.out v hv
                · rw [List.mem_singleton.1 hv]; exact h0)
              obtain ⟨u, hu⟩ := boxA_new wr (.int .i64 x.kind) (.string ⟨x.name.toArray⟩) (.int .i64 x.n) (.slice A' x.X.length c') 24
              have U := Lib.hid u
              have HU := Lib.hid (below_newA HB.out hu)
              have HC := Lib.hid (HIH.out x (List.mem_of_getElem? hx) A' c' _ (AskAt.keep hu _ _ _ hch) (HOK.out.kid x (List.mem_of_getElem? hx)) HXS.out (HF.out.below HU.out))
              unfold askV CntPost at HC
              have hj1 : (j : Int) < (X.length : Int) := by omega
              clear hx hch hms u hu
              generalize hbx : (⟨x.name.toArray⟩ : ByteArray) = bx at *
              clear hbx
              generalize x.kind = xk at *
              generalize x.n = xn at *
              generalize x.X.length = xm at *
              generalize faultA x = xf at *
              go_upto_region 20 with fail
              generalize wr.alloc (.cells #[.int .i64 xk, .string bx, .int .i64 xn, .slice A' xm c'] 24) = w5 at *
              obtain ⟨u1, u2, u3, u4⟩ := U.out
              go_wp2_with fail
              refine HC.out.mono ?_
              rintro e w6 ⟨rfl, hb6⟩
              have HB6 := Lib.hid (below_newA HU.out hb6)
              clear hb6 u1 u2 u3 u4
              by_cases hx0 : xf = 0
              · subst hx0
                have HP3 := Lib.hid (HP2.out rfl)
                go_wp2_with fail
                exact ⟨⟨j + 1, rfl, by omega, HP3, HB6⟩, measA hlt⟩
              · have HV : Hid ((xf : Int) = (R : Int)) := Lib.hid (by rw [HRT.out, firstNZ_at HMS.out HP.out hx0])
                have hn0 : ((xf : Int) != 0) = true := by simp; omega
                clear hx0
                go_wp2_with fail
                go_ret
                exact ⟨ret_int HV.out, HB6.out⟩
            · obtain rfl : j = X.length := by omega
              have HV : Hid ((0 : Int) = (R : Int)) := Lib.hid (by rw [HRT.out, firstNZ_zero (fun v hv => HP.out v (by rw [List.take_of_length_le (by simp)]; exact hv))]; rfl)
              go_wp2_with fail
              go_ret
              exact ⟨ret_int HV.out, HB.out⟩
      · have h15 : ¬ (q : Int) = 15 := fun e => by have h := HUB.out; rw [e] at h; revert h; decide
        have k15 : ((q : Int) == 15) = false := by simp [h15]
        have hn0 : n = 0 := of_decide_eq_true h3
        subst hn0
        have HE0 : Hid (E = 0) := Lib.hid (by rw [HPE.out, if_neg h15]; rfl)
        clear h15 h3
        have HRT := Lib.hid (HR0.out HE0.out)
        go_wp2_with fail
        go_loopw [5, 6, 94] (fun _ _ i wr => ∃ (j : Nat), i = .int .i64 (j : Int) ∧ j ≤ X.length ∧ Hid (∀ v ∈ (X.map faultA).take j, v = 0) ∧ Hid (Below w.heap.size w wr)) (fun _ _ i _ => X.length - (intOf i).toNat)
        case atStart => exact ⟨0, rfl, by omega, Lib.hid (by simp), Lib.hid (HZ.out)⟩
        case round =>
          obtain ⟨j, rfl, hj, HP, HB⟩ := hrel
          by_cases hlt : j < X.length
          · obtain ⟨x, hx⟩ : ∃ x, X[j]? = some x := ⟨_, List.getElem?_eq_getElem hlt⟩
            obtain ⟨b, off, A', c', rfl, e1, e2, e3, e4, hch⟩ := AskAt.child (AskAt.keep HB.out _ _ _ HA.out) hx
            have hms : (X.map faultA)[j]? = some (faultA x) := by rw [List.getElem?_map, hx]; rfl
            have HMS := Lib.hid hms
            have HXS : Hid (sizeA x ≤ 1152921504606846976) := Lib.hid (by
              have h1 : (X.map sizeA)[j]? = some (sizeA x) := by rw [List.getElem?_map, hx]; rfl
              have h2 := sum_take_succ h1
              have h3 := sum_take_le (X.map sizeA) (j + 1)
              have := HS.out
              omega)
            have HP2 : Hid (faultA x = 0 → ∀ v ∈ (X.map faultA).take (j + 1), v = 0) := Lib.hid (fun h0 v hv => by
              rw [List.take_add_one, HMS.out] at hv
              rcases List.mem_append.1 hv with hv | hv
              · exact HP.out v hv
              · rw [List.mem_singleton.1 hv]; exact h0)
            obtain ⟨u, hu⟩ := boxA_new wr (.int .i64 x.kind) (.string ⟨x.name.toArray⟩) (.int .i64 x.n) (.slice A' x.X.length c') 24
            have U := Lib.hid u
            have HU := Lib.hid (below_newA HB.out hu)
            have HC := Lib.hid (HIH.out x (List.mem_of_getElem? hx) A' c' _ (AskAt.keep hu _ _ _ hch) (HOK.out.kid x (List.mem_of_getElem? hx)) HXS.out (HF.out.below HU.out))
            unfold askV CntPost at HC
            have hj1 : (j : Int) < (X.length : Int) := by omega
            clear hx hch hms u hu
            generalize hbx : (⟨x.name.toArray⟩ : ByteArray) = bx at *
            clear hbx
            generalize x.kind = xk at *
            generalize x.n = xn at *
            generalize x.X.length = xm at *
            generalize faultA x = xf at *
            go_upto_region 20 with fail
            generalize wr.alloc (.cells #[.int .i64 xk, .string bx, .int .i64 xn, .slice A' xm c'] 24) = w5 at *
            obtain ⟨u1, u2, u3, u4⟩ := U.out
            go_wp2_with fail
            refine HC.out.mono ?_
            rintro e w6 ⟨rfl, hb6⟩
            have HB6 := Lib.hid (below_newA HU.out hb6)
            clear hb6 u1 u2 u3 u4
            by_cases hx0 : xf = 0
            · subst hx0
              have HP3 := Lib.hid (HP2.out rfl)
              go_wp2_with fail
              exact ⟨⟨j + 1, rfl, by omega, HP3, HB6⟩, measA hlt⟩
            · have HV : Hid ((xf : Int) = (R : Int)) := Lib.hid (by rw [HRT.out, firstNZ_at HMS.out HP.out hx0])
              have hn0 : ((xf : Int) != 0) = true := by simp; omega
              clear hx0
              go_wp2_with fail
              go_ret
              exact ⟨ret_int HV.out, HB6.out⟩
          · obtain rfl : j = X.length := by omega
            have HV : Hid ((0 : Int) = (R : Int)) := Lib.hid (by rw [HRT.out, firstNZ_zero (fun v hv => HP.out v (by rw [List.take_of_length_le (by simp)]; exact hv))]; rfl)
            go_wp2_with fail
            go_ret
            exact ⟨ret_int HV.out, HB.out⟩
end Go.Proofs.YtcodncddaemhlaaDoor
/- Contract: ask.Check. -/
namespace Go.Proofs.YtcodncddaemhlaaDoor
open Go.RowKit

set_option maxRecDepth 100000 in
set_option maxHeartbeats 2000000 in
theorem aCheck_any (x : AskT) (A : Option Addr) (c : Nat) (w : World) (hA : AskAt w x A c) (hok : AskOk x) (hs : sizeA x ≤ 1152921504606846976) (hF : FTab w) : Calls Tryd.prog 14 #[askV x A c] w (CntPost (askE x) w) := by
  have hm' : x.X.length ≤ 9223372036854775807 := by have := kids_size x; omega
  obtain ⟨y, hy⟩ := boxA_new w (.int .i64 x.kind) (.string ⟨x.name.toArray⟩) (.int .i64 x.n) (.slice A x.X.length c) 24
  have Y := Lib.hid y
  have HY := Lib.hid hy
  have HE := Lib.hid (show askE x = if 60 < sizeA x then 2 else faultA x from rfl)
  have CC := Lib.hid (aCount_any x A c _ (AskAt.keep hy _ _ _ hA) hm' hs)
  have CK := Lib.hid (fun W (hb : Below (w.alloc (.cells #[.int .i64 x.kind, .string ⟨x.name.toArray⟩, .int .i64 x.n, .slice A x.X.length c] 24)).heap.size (w.alloc (.cells #[.int .i64 x.kind, .string ⟨x.name.toArray⟩, .int .i64 x.n, .slice A x.X.length c] 24)) W) => aChk_any x A c W (AskAt.keep hb _ _ _ (AskAt.keep hy _ _ _ hA)) hok hs ((hF.below hy).below hb))
  have HS := Lib.hid hs
  clear hA hok hs hF y hy
  unfold askV at *
  unfold CntPost at *
  generalize hbs : (⟨x.name.toArray⟩ : ByteArray) = bs at *
  clear hbs
  generalize askE x = E at *
  generalize x.kind = xk at *
  generalize x.n = xn at *
  generalize x.X.length = xm at *
  generalize sizeA x = xs at *
  generalize faultA x = F at *
  go_enter Tryd.func14, Tryd.ntmps14
  go_upto_region 1 with fail
  generalize w.alloc (.cells #[.int .i64 xk, .string bs, .int .i64 xn, .slice A xm c] 24) = w0 at *
  obtain ⟨y1, y2, y3, y4⟩ := Y.out
  go_wp2_with fail
  refine CC.out.mono ?_
  rintro e w2 ⟨rfl, hb2⟩
  have HB2 := Lib.hid (below_newA HY.out hb2)
  have Y2 := Lib.hid (Y.out.below hb2)
  have CK2 := Lib.hid (CK.out w2 hb2)
  clear hb2 y1 y2 y3 y4
  by_cases h60 : 60 < xs
  · have h1 : (60 : Int) < (xs : Int) := by omega
    have HV : Hid ((2 : Int) = (E : Int)) := Lib.hid (by rw [HE.out, if_pos h60]; rfl)
    clear h60
    go_wp2_with fail
    go_ret
    exact ⟨ret_int HV.out, HB2.out⟩
  · have h1 : ¬ (60 : Int) < (xs : Int) := by omega
    have HV : Hid ((F : Int) = (E : Int)) := Lib.hid (by rw [HE.out, if_neg h60])
    clear h60
    obtain ⟨y1, y2, y3, y4⟩ := Y2.out
    go_wp2_with fail
    refine CK2.out.mono ?_
    rintro e w3 ⟨rfl, hb3⟩
    have HB3 := Lib.hid (below_newA HB2.out hb3)
    clear hb3 y1 y2 y3 y4
    go_wp2_with fail
    go_ret
    exact ⟨ret_int HV.out, HB3.out⟩
end Go.Proofs.YtcodncddaemhlaaDoor
