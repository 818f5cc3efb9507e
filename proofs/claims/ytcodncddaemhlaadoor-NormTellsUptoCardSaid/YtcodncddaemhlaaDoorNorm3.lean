/- Contract: the reference's AskText, of an ask that is right, of at most 60 parts. -/
import Derived.Test.YtcodncddaemhlaaDoorNorm1
import Derived.Deep.DeepCutAuto
namespace Go.Proofs.YtcodncddaemhlaaDoor
open Go.RowKit

theorem getD_len {X : List AskT} {i : Nat} (h : ∀ y ∈ X, (textA y).length ≤ 6000) : ((X.map textA).getD i []).length ≤ 6000 := by
  rw [List.getD_eq_getElem?_getD, List.getElem?_map]
  cases hx : X[i]? with
  | none => simp
  | some y => exact h y (List.mem_of_getElem? hx)
theorem size_bs {b : ByteArray} {l : List UInt8} {m : Nat} (h : b.data.toList = l) (hl : l.length ≤ m) : b.size ≤ m := by
  have : b.data.toList.length ≤ m := by rw [h]; exact hl
  simpa using this
set_option maxRecDepth 100000 in
set_option maxHeartbeats 4000000 in
theorem rText_any : ∀ (x : AskT) (A : Option Addr) (c : Nat) (w : World), AskAt w x A c → okA x → sizeA x ≤ 60 → Calls Tryd.prog 30 #[askV x A c] w (StrPost (textA x) w) := by
  refine askT_ind fun k s n X ih A c w hA hok hs => ?_
  have HIH := Lib.hid ih
  have HA := Lib.hid hA
  have HOK := Lib.hid hok
  have HS : Hid (1 + (X.map sizeA).sum ≤ 60) := Lib.hid (by rw [← sizeA_mk k s n X]; exact hs)
  have HKS : Hid (∀ y ∈ X, sizeA y ≤ 59) := Lib.hid (fun y hy => by
    obtain ⟨i, hi⟩ := List.mem_iff_getElem?.1 hy
    have h1 : (X.map sizeA)[i]? = some (sizeA y) := by rw [List.getElem?_map, hi]; rfl
    have h2 := sum_take_succ h1
    have h3 := sum_take_le (X.map sizeA) (i + 1)
    have := HS.out
    omega)
  have hm' : X.length ≤ 60 := by have := kids_le X; have := HS.out; omega
  have HTA := Lib.hid (textA_mk k s n X)
  have HGL := Lib.hid (fun i => getD_len (X := X) (i := i) (fun y hy => by have := textA_len y (ok_kids HOK.out y hy); have := HKS.out y hy; omega))
  have HSL := Lib.hid (name_len hok)
  have hr := ok_form hok
  obtain ⟨q, hq⟩ : ∃ q : Nat, k = (q : Int) := ⟨k.toNat, by omega⟩
  subst hq
  have hq1 : 1 ≤ q := by have := hr.1; omega
  have hq2 : q ≤ 15 := by have := hr.2.1; omega
  obtain ⟨y, hy⟩ := boxA_new w (.int .i64 (q : Int)) (.string ⟨s.toArray⟩) (.int .i64 n) (.slice A X.length c) 24
  have Y := Lib.hid y
  have HY := Lib.hid hy
  clear ih hA hok hs hr y hy
  unfold askV
  simp only [AskT.kind, AskT.name, AskT.n, AskT.X]
  generalize hTT : textA (.mk (q : Int) s n X) = T at *
  clear hTT
  generalize hbs : (⟨s.toArray⟩ : ByteArray) = bs at *
  have HSB : Hid (bs.data.toList = s) := Lib.hid (by rw [← hbs])
  clear hbs
  obtain ⟨ba, hba⟩ : ∃ ba : ByteArray, ba = ⟨((X.map textA).getD 0 []).toArray⟩ := ⟨_, rfl⟩
  obtain ⟨bb, hbb⟩ : ∃ bb : ByteArray, bb = ⟨((X.map textA).getD 1 []).toArray⟩ := ⟨_, rfl⟩
  have HBAE := Lib.hid hba
  have HBBE := Lib.hid hbb
  clear hba hbb
  go_enter Tryd.func30, Tryd.ntmps30
  go_upto_region 2 with fail
  generalize w.alloc (.cells #[.int .i64 (q : Int), .string bs, .int .i64 n, .slice A X.length c] 24) = w0 at *
  obtain ⟨y1, y2, y3, y4⟩ := Y.out
  go_upto_if 8 with fail
  go_cut [3] (fun s3 wx => s3 = .string ba ∧ Below w0.heap.size w0 wx)
  case first =>
    cases hX : X with
    | nil =>
      subst hX
      have HV : Hid ((⟨#[]⟩ : ByteArray) = ba) := Lib.hid HBAE.out.symm
      go_wp2_with fail
      go_meet
      exact ⟨congrArg Value.string HV.out, Below.refl _ _⟩
    | cons x X' =>
      have hx : X[0]? = some x := by rw [hX]; rfl
      obtain ⟨b, off, A', c', rfl, e1, e2, e3, e4, hch⟩ := AskAt.child (AskAt.keep HY.out _ _ _ HA.out) hx
      have hmx := List.mem_of_getElem? hx
      have HV : Hid ((⟨(textA x).toArray⟩ : ByteArray) = ba) := Lib.hid (by rw [HBAE.out, hX]; rfl)
      have HC := Lib.hid (HIH.out x hmx A' c' w0 hch (ok_kids HOK.out x hmx) (by have := HKS.out x hmx; omega))
      unfold askV StrPost at HC
      rw [HV.out] at HC
      have hlen : 0 < X.length := by rw [hX]; simp
      have hlen2 : (0 : Int) < (X.length : Int) := by omega
      simp only [Nat.zero_mul, Nat.add_zero] at e1 e2 e3 e4
      rw [← hX]
      clear hx hch hmx hX
      go_wp2_with fail
      refine HC.out.mono ?_
      rintro e w6 ⟨rfl, hb6⟩
      have HB6 := Lib.hid hb6
      clear hb6 y1 y2 y3 y4 e1 e2 e3 e4
      go_wp2_with fail
      go_meet
      exact ⟨rfl, HB6.out⟩
  case rest =>
  obtain ⟨rfl, hb1⟩ := hcut
  have HB1 := Lib.hid (below_newA HY.out hb1)
  have Y1 := Lib.hid (Y.out.below hb1)
  clear hb1 y1 y2 y3 y4
  generalize hw1 : wc = w1 at *
  clear hw1
  obtain ⟨y1, y2, y3, y4⟩ := Y1.out
  go_upto_if 17 with fail
  go_cut [4] (fun s4 wx => s4 = .string bb ∧ Below w1.heap.size w1 wx)
  case first =>
    by_cases h1 : 1 < X.length
    · obtain ⟨x, hx⟩ : ∃ x, X[1]? = some x := ⟨_, List.getElem?_eq_getElem h1⟩
      obtain ⟨b, off, A', c', rfl, e1, e2, e3, e4, hch⟩ := AskAt.child (AskAt.keep HB1.out _ _ _ HA.out) hx
      have hmx := List.mem_of_getElem? hx
      have HV : Hid ((⟨(textA x).toArray⟩ : ByteArray) = bb) := Lib.hid (by rw [HBBE.out, List.getD_eq_getElem?_getD, List.getElem?_map, hx]; rfl)
      have HC := Lib.hid (HIH.out x hmx A' c' w1 hch (ok_kids HOK.out x hmx) (by have := HKS.out x hmx; omega))
      unfold askV StrPost at HC
      rw [HV.out] at HC
      have hlen2 : (1 : Int) < (X.length : Int) := by omega
      simp only [Nat.one_mul] at e1 e2 e3 e4
      clear hx hch hmx
      go_wp2_with fail
      refine HC.out.mono ?_
      rintro e w6 ⟨rfl, hb6⟩
      have HB6 := Lib.hid hb6
      clear hb6 y1 y2 y3 y4 e1 e2 e3 e4
      go_wp2_with fail
      go_meet
      exact ⟨rfl, HB6.out⟩
    · have HV : Hid ((⟨#[]⟩ : ByteArray) = bb) := Lib.hid (by rw [HBBE.out, List.getD_eq_getElem?_getD, List.getElem?_eq_none (by simp; omega)]; rfl)
      have hlen2 : ¬ (1 : Int) < (X.length : Int) := by omega
      go_wp2_with fail
      go_meet
      exact ⟨congrArg Value.string HV.out, Below.refl _ _⟩
  case rest =>
  obtain ⟨rfl, hb2⟩ := hcut
  have HB2 := Lib.hid (below_newA HB1.out hb2)
  have Y2 := Lib.hid (Y1.out.below hb2)
  clear hb2 y1 y2 y3 y4 HIH
  generalize hw2 : wc = w2 at *
  clear hw2
  obtain ⟨y1, y2, y3, y4⟩ := Y2.out
  have HTX : Hid (T = textK (q : Int) s n ba.data.toList bb.data.toList) := Lib.hid (by rw [HTA.out, HBAE.out, HBBE.out])
  have hla : ba.size ≤ 6000 := size_bs (l := (X.map textA).getD 0 []) (by rw [HBAE.out]) (HGL.out 0)
  have hlb : bb.size ≤ 6000 := size_bs (l := (X.map textA).getD 1 []) (by rw [HBBE.out]) (HGL.out 1)
  have hls : bs.size ≤ 60 := size_bs HSB.out HSL.out
  go_upto_region 7 with fail
  by_cases h1 : (q : Int) = 1
  · have e1 : ((q : Int) == 1) = true := by simp [h1]
    have HT1 : Hid (T = bs.data.toList) := Lib.hid (by rw [HTX.out, h1]; simp [textK, HSB.out])
    clear h1
    go_wp2_with fail
    go_ret
    exact ⟨ret_str (HT1.out.symm), HB2.out⟩
  have e1 : ((q : Int) == 1) = false := by simp [h1]
  have g1 := Lib.hid h1
  clear h1
  go_upto_region 9 with fail
  by_cases h2 : (q : Int) = 2
  · have e2 : ((q : Int) == 2) = true := by simp [h2]
    have HT1 : Hid (T = [42]) := Lib.hid (by rw [HTX.out, h2]; simp [textK])
    clear h2
    go_wp2_with fail
    go_ret
    exact ⟨ret_str (HT1.out.symm), HB2.out⟩
  have e2 : ((q : Int) == 2) = false := by simp [h2]
  have g2 := Lib.hid h2
  clear h2
  go_upto_region 11 with fail
  by_cases h3 : (q : Int) = 3
  · have e3 : ((q : Int) == 3) = true := by simp [h3]
    have HT1 : Hid (T = [36] ++ bs.data.toList) := Lib.hid (by rw [HTX.out, h3]; simp [textK, HSB.out])
    clear h3
    go_wp2_with fail
    go_ret
    exact ⟨ret_str (by simp only [ba_app]; exact HT1.out.symm), HB2.out⟩
  have e3 : ((q : Int) == 3) = false := by simp [h3]
  have g3 := Lib.hid h3
  clear h3
  go_upto_region 13 with fail
  by_cases h4 : (q : Int) = 4
  · have e4 : ((q : Int) == 4) = true := by simp [h4]
    have HT1 : Hid (T = [40, 108, 101, 116, 32] ++ bs.data.toList ++ [32, 61, 32] ++ ba.data.toList ++ [32, 105, 110, 32] ++ bb.data.toList ++ [41]) := Lib.hid (by rw [HTX.out, h4]; simp [textK, HSB.out])
    clear h4
    go_wp2_with fail
    go_ret
    exact ⟨ret_str (by simp only [ba_app]; exact HT1.out.symm), HB2.out⟩
  have e4 : ((q : Int) == 4) = false := by simp [h4]
  have g4 := Lib.hid h4
  clear h4
  go_upto_region 15 with fail
  by_cases h5 : (q : Int) = 5
  · have e5 : ((q : Int) == 5) = true := by simp [h5]
    have HT1 : Hid (T = [40] ++ ba.data.toList ++ [32, 43, 32] ++ bb.data.toList ++ [41]) := Lib.hid (by rw [HTX.out, h5]; simp [textK, signA])
    clear h5
    go_wp2_with fail
    go_ret
    exact ⟨ret_str (by simp only [ba_app]; exact HT1.out.symm), HB2.out⟩
  have e5 : ((q : Int) == 5) = false := by simp [h5]
  have g5 := Lib.hid h5
  clear h5
  go_upto_region 17 with fail
  by_cases h6 : (q : Int) = 6
  · have e6 : ((q : Int) == 6) = true := by simp [h6]
    have HT1 : Hid (T = [40] ++ ba.data.toList ++ [32, 94, 32] ++ bb.data.toList ++ [41]) := Lib.hid (by rw [HTX.out, h6]; simp [textK, signA])
    clear h6
    go_wp2_with fail
    go_ret
    exact ⟨ret_str (by simp only [ba_app]; exact HT1.out.symm), HB2.out⟩
  have e6 : ((q : Int) == 6) = false := by simp [h6]
  have g6 := Lib.hid h6
  clear h6
  go_upto_region 19 with fail
  by_cases h7 : (q : Int) = 7
  · have e7 : ((q : Int) == 7) = true := by simp [h7]
    have HT1 : Hid (T = [40] ++ ba.data.toList ++ [32, 45, 32] ++ bb.data.toList ++ [41]) := Lib.hid (by rw [HTX.out, h7]; simp [textK, signA])
    clear h7
    go_wp2_with fail
    go_ret
    exact ⟨ret_str (by simp only [ba_app]; exact HT1.out.symm), HB2.out⟩
  have e7 : ((q : Int) == 7) = false := by simp [h7]
  have g7 := Lib.hid h7
  clear h7
  go_upto_region 21 with fail
  by_cases h8 : (q : Int) = 8
  · have e8 : ((q : Int) == 8) = true := by simp [h8]
    have HT1 : Hid (T = [100, 101, 112, 115, 40] ++ ba.data.toList ++ [41]) := Lib.hid (by rw [HTX.out, h8]; simp [textK, wordA])
    clear h8
    go_wp2_with fail
    go_ret
    exact ⟨ret_str (by simp only [ba_app]; exact HT1.out.symm), HB2.out⟩
  have e8 : ((q : Int) == 8) = false := by simp [h8]
  have g8 := Lib.hid h8
  clear h8
  go_upto_region 23 with fail
  by_cases h9 : (q : Int) = 9
  · have e9 : ((q : Int) == 9) = true := by simp [h9]
    have HT1 : Hid (T = [117, 115, 101, 114, 115, 40] ++ ba.data.toList ++ [41]) := Lib.hid (by rw [HTX.out, h9]; simp [textK, wordA])
    clear h9
    go_wp2_with fail
    go_ret
    exact ⟨ret_str (by simp only [ba_app]; exact HT1.out.symm), HB2.out⟩
  have e9 : ((q : Int) == 9) = false := by simp [h9]
  have g9 := Lib.hid h9
  clear h9
  go_upto_region 25 with fail
  by_cases h10 : (q : Int) = 10
  · have e10 : ((q : Int) == 10) = true := by simp [h10]
    have hn := ok_num HOK.out (by omega)
    obtain ⟨m, rfl⟩ : ∃ m : Nat, n = (m : Int) := ⟨n.toNat, by omega⟩
    have hil := itoa_len hn.1 hn.2
    have CD := Lib.hid (rDecimal_any m (by omega))
    generalize hbi : (⟨(Lib.itoa (m : Int)).toArray⟩ : ByteArray) = bi at CD
    have HBI : Hid (bi.data.toList = Lib.itoa (m : Int)) := Lib.hid (by rw [← hbi])
    have hbl : bi.size ≤ 3 := size_bs HBI.out hil
    have HT1 : Hid (T = [100, 101, 112, 115, 40] ++ ba.data.toList ++ [44, 32] ++ bi.data.toList ++ [41]) := Lib.hid (by rw [HTX.out, h10, HBI.out]; simp [textK, wordA])
    clear h10 hbi hil hn
    go_wp2_with fail
    refine (CD.out w2).mono ?_
    rintro e w6 ⟨rfl, rfl⟩
    go_wp2_with fail
    go_ret
    exact ⟨ret_str (by simp only [ba_app]; exact HT1.out.symm), HB2.out⟩
  have e10 : ((q : Int) == 10) = false := by simp [h10]
  have g10 := Lib.hid h10
  clear h10
  go_upto_region 27 with fail
  by_cases h11 : (q : Int) = 11
  · have e11 : ((q : Int) == 11) = true := by simp [h11]
    have hn := ok_num HOK.out (by omega)
    obtain ⟨m, rfl⟩ : ∃ m : Nat, n = (m : Int) := ⟨n.toNat, by omega⟩
    have hil := itoa_len hn.1 hn.2
    have CD := Lib.hid (rDecimal_any m (by omega))
    generalize hbi : (⟨(Lib.itoa (m : Int)).toArray⟩ : ByteArray) = bi at CD
    have HBI : Hid (bi.data.toList = Lib.itoa (m : Int)) := Lib.hid (by rw [← hbi])
    have hbl : bi.size ≤ 3 := size_bs HBI.out hil
    have HT1 : Hid (T = [117, 115, 101, 114, 115, 40] ++ ba.data.toList ++ [44, 32] ++ bi.data.toList ++ [41]) := Lib.hid (by rw [HTX.out, h11, HBI.out]; simp [textK, wordA])
    clear h11 hbi hil hn
    go_wp2_with fail
    refine (CD.out w2).mono ?_
    rintro e w6 ⟨rfl, rfl⟩
    go_wp2_with fail
    go_ret
    exact ⟨ret_str (by simp only [ba_app]; exact HT1.out.symm), HB2.out⟩
  have e11 : ((q : Int) == 11) = false := by simp [h11]
  have g11 := Lib.hid h11
  clear h11
  go_upto_region 29 with fail
  by_cases h12 : (q : Int) = 12
  · have e12 : ((q : Int) == 12) = true := by simp [h12]
    have HT1 : Hid (T = [119, 97, 121, 115, 40] ++ ba.data.toList ++ [44, 32] ++ bb.data.toList ++ [41]) := Lib.hid (by rw [HTX.out, h12]; simp [textK, wordA])
    clear h12
    go_wp2_with fail
    go_ret
    exact ⟨ret_str (by simp only [ba_app]; exact HT1.out.symm), HB2.out⟩
  have e12 : ((q : Int) == 12) = false := by simp [h12]
  have g12 := Lib.hid h12
  clear h12
  go_upto_region 31 with fail
  by_cases h13 : (q : Int) = 13
  · have e13 : ((q : Int) == 13) = true := by simp [h13]
    have HT1 : Hid (T = [115, 111, 109, 101, 40] ++ ba.data.toList ++ [44, 32] ++ bb.data.toList ++ [41]) := Lib.hid (by rw [HTX.out, h13]; simp [textK, wordA])
    clear h13
    go_wp2_with fail
    go_ret
    exact ⟨ret_str (by simp only [ba_app]; exact HT1.out.symm), HB2.out⟩
  have e13 : ((q : Int) == 13) = false := by simp [h13]
  have g13 := Lib.hid h13
  clear h13
  go_upto_region 33 with fail
  by_cases h14 : (q : Int) = 14
  · have e14 : ((q : Int) == 14) = true := by simp [h14]
    have HT1 : Hid (T = [109, 97, 116, 99, 104, 40] ++ bs.data.toList ++ [44, 32] ++ ba.data.toList ++ [41]) := Lib.hid (by rw [HTX.out, h14]; simp [textK, wordA, HSB.out])
    clear h14
    go_wp2_with fail
    go_ret
    exact ⟨ret_str (by simp only [ba_app]; exact HT1.out.symm), HB2.out⟩
  have e14 : ((q : Int) == 14) = false := by simp [h14]
  have g14 := Lib.hid h14
  clear h14
  go_upto_region 35 with fail
  have h15 : (q : Int) = 15 := by have := g1.out; have := g2.out; have := g3.out; have := g4.out; have := g5.out; have := g6.out; have := g7.out; have := g8.out; have := g9.out; have := g10.out; have := g11.out; have := g12.out; have := g13.out; have := g14.out; omega
  have hn := ok_num15 (by have h := HOK.out; rw [h15] at h; exact h)
  have HT1 : Hid (T = kindA n ++ [40] ++ ba.data.toList ++ [41]) := Lib.hid (by rw [HTX.out, h15]; simp [textK])
  clear h15
  rcases (by omega : n = 1 ∨ n = 2 ∨ n = 3) with rfl | rfl | rfl
  all_goals
    have HBN := Lib.hid (below_newA HB2.out (below_new (Below.refl w2.heap.size w2) (.cells #[.string ⟨#[]⟩, .string ⟨#[109, 97, 100, 101, 40]⟩, .string ⟨#[112, 104, 111, 110, 121, 40]⟩, .string ⟨#[112, 108, 97, 105, 110, 40]⟩] 9)))
    have ya := Lib.hid (Y2.out.below (below_new (Below.refl w2.heap.size w2) (.cells #[.string ⟨#[]⟩, .string ⟨#[109, 97, 100, 101, 40]⟩, .string ⟨#[112, 104, 111, 110, 121, 40]⟩, .string ⟨#[112, 108, 97, 105, 110, 40]⟩] 9)))
    have yb := ya.out.c3
    go_wp2_with fail
    go_ret
    exact ⟨ret_str (by simp only [ba_app]; exact HT1.out.symm), HBN.out⟩
end Go.Proofs.YtcodncddaemhlaaDoor
