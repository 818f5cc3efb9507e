/- The law GlobTells: its walk. -/
import Derived.Test.YtjdfmmjadjggjaaGlobT4
import Derived.Test.YtjdfmmjadjggjaaName12
import Derived.Laws.BytesString
namespace Go.Proofs.Ytjdfmmjadjggjaa
open Go.RowKit

/-- What the law makes of the pieces: the plain text so far, whether all were plain. -/
def stP (M : List GQ) : List UInt8 × Bool := M.foldl (fun x g => if x.2 && decide (0 ≤ g.self) then (x.1 ++ [UInt8.ofNat g.self.toNat], true) else (x.1, false)) ([], true)
theorem stP_snoc (M : List GQ) (g : GQ) : stP (M ++ [g]) = if (stP M).2 && decide (0 ≤ g.self) then ((stP M).1 ++ [UInt8.ofNat g.self.toNat], true) else ((stP M).1, false) := by unfold stP; rw [List.foldl_append]; rfl
theorem stP_eq : ∀ (n : Nat) (M : List GQ), M.length = n → (stP M).2 = M.all (fun x => decide (0 ≤ x.self)) ∧ ((stP M).2 = true → (stP M).1 = M.map fun x => UInt8.ofNat x.self.toNat) := by
  intro n
  induction n with
  | zero =>
    intro M hn
    obtain rfl : M = [] := List.length_eq_zero_iff.1 hn
    exact ⟨rfl, fun _ => rfl⟩
  | succ n ih =>
    intro M hn
    have hne : M ≠ [] := fun e => by rw [e] at hn; cases hn
    obtain ⟨L, g, rfl⟩ : ∃ L g, M = L ++ [g] := ⟨_, _, (List.dropLast_concat_getLast hne).symm⟩
    obtain ⟨h1, h2⟩ := ih L (by simp at hn; exact hn)
    rw [stP_snoc, List.all_append, ← h1]
    cases ho : (stP L).2 with
    | false => simp
    | true =>
      by_cases hg : 0 ≤ g.self
      · simp [hg, h2 ho]
      · simp [hg]
theorem pln_st {s : List UInt8} {M : List GQ} (h0 : errG s = 0) (h1 : parseG s = some M) : plnG s = if (stP M).2 then some (stP M).1 else none := by
  unfold plnG
  obtain ⟨h2, h3⟩ := stP_eq _ M rfl
  rw [if_pos h0, plain_parse _ _ _ (Nat.le_refl _) h1, ← h2]
  cases ho : (stP M).2 with
  | true => rw [if_pos rfl, if_pos rfl, h3 ho]
  | false => rfl
theorem parse_self : ∀ (n : Nat) (s : List UInt8) (M : List GQ), s.length ≤ n → parseG s = some M → ∀ g ∈ M, g.self = -1 ∨ ∃ d : UInt8, g.self = (d.toNat : Int) := by
  intro n
  induction n with
  | zero =>
    intro s M hn h
    obtain rfl : s = [] := List.length_eq_zero_iff.1 (by omega)
    rw [parseG_nil] at h
    injection h with h
    subst h
    intro g hg
    cases hg
  | succ n ih =>
    intro s M hn h
    cases s with
    | nil =>
      rw [parseG_nil] at h
      injection h with h
      subst h
      intro g hg
      cases hg
    | cons c t =>
      cases hx : stepG c t with
      | none => rw [parseG_no hx] at h; cases h
      | some x =>
        rw [parseG_yes hx] at h
        obtain ⟨L, hL, rfl⟩ := Option.map_eq_some_iff.1 h
        have hlen := stepG_len hx
        intro g hg
        rcases List.mem_cons.1 hg with rfl | hg
        · unfold stepG at hx
          by_cases h1 : c = 42
          · subst h1; injection hx with hx; subst hx; exact .inl rfl
          · by_cases h2 : c = 63
            · subst h2; injection hx with hx; subst hx; exact .inl rfl
            · by_cases h3 : c = 91
              · subst h3
                rw [if_neg h1, if_neg h2, if_pos rfl] at hx
                obtain ⟨y, _, rfl⟩ := Option.map_eq_some_iff.1 hx
                exact .inl rfl
              · by_cases h4 : c = 93
                · subst h4; cases hx
                · rw [if_neg h1, if_neg h2, if_neg h3, if_neg h4] at hx
                  by_cases h5 : c = 92
                  · subst h5
                    rw [if_pos rfl] at hx
                    cases t with
                    | nil => cases hx
                    | cons d r => injection hx with hx; subst hx; exact .inr ⟨d, rfl⟩
                  · rw [if_neg h5] at hx
                    injection hx with hx
                    subst hx
                    exact .inr ⟨c, rfl⟩
        · exact ih _ L (by simp at hn; omega) hL g hg
theorem place_quo (c : UInt8) : ([c] ∈ ([[42], [63], [91], [93], [92]] : List (List UInt8))) ↔ quoG c = true := by
  unfold quoG
  simp [or_assoc]
theorem cat_bytes (x y : List UInt8) : (⟨x.toArray⟩ : ByteArray) ++ ⟨y.toArray⟩ = ⟨(x ++ y).toArray⟩ := by
  apply ByteArray.ext
  simp
theorem seg_one {s : List UInt8} {i : Nat} {c : UInt8} (h : s[i]? = some c) : (s.drop i).take (i + 1 - i) = [c] := by
  rw [drop_cons h, show i + 1 - i = 1 by omega]
  rfl
theorem st_zero (M : List GQ) : stP (M.take 0) = ([], true) := rfl
theorem st_step {M : List GQ} {k : Nat} {g : GQ} (h : M[k]? = some g) : stP (M.take (k + 1)) = if (stP (M.take k)).2 && decide (0 ≤ g.self) then ((stP (M.take k)).1 ++ [UInt8.ofNat g.self.toNat], true) else ((stP (M.take k)).1, false) := by rw [take_snocG h, stP_snoc]
theorem st_len : ∀ (n : Nat) (M : List GQ), M.length = n → (stP M).1.length ≤ n := by
  intro n
  induction n with
  | zero =>
    intro M hn
    obtain rfl : M = [] := List.length_eq_zero_iff.1 hn
    exact Nat.le_refl _
  | succ n ih =>
    intro M hn
    have hne : M ≠ [] := fun e => by rw [e] at hn; cases hn
    obtain ⟨L, g, rfl⟩ : ∃ L g, M = L ++ [g] := ⟨_, _, (List.dropLast_concat_getLast hne).symm⟩
    have h1 := ih L (by simp at hn; exact hn)
    rw [stP_snoc]
    split
    · simp; omega
    · show (stP L).1.length ≤ _; omega
theorem wrap_u8 (d : UInt8) : IntKind.u8.wrap ((d.toNat : Nat) : Int) = ((d.toNat : Nat) : Int) := by
  have h := d.toNat_lt
  have e : ∀ n : Fin 256, IntKind.u8.wrap ((n.val : Nat) : Int) = ((n.val : Nat) : Int) := by decide +kernel
  exact e ⟨d.toNat, h⟩
theorem conv_one (w : World) (d : UInt8) : (convert 43 9 (.slice (some ⟨w.heap.size, 0, none⟩) 1 1)).run Try.prog (w.alloc (.cells #[.int .u8 ((d.toNat : Nat) : Int)] 5)) = .ok (.string ⟨#[d]⟩) (w.alloc (.cells #[.int .u8 ((d.toNat : Nat) : Int)] 5)) := by
  rw [run_convert_bytes_string _ 43 9 5 _ 1 1 Try.underlying43 Try.underlying5 Try.underlying9]
  rw [run_bytesToString _ _ 1 1 [((d.toNat : Nat) : Int)] (run_loadCells_list (P := Try.prog) _ _ [.int .u8 ((d.toNat : Nat) : Int)] (fun j v hj => by
    match j, hj with
    | 0, hj =>
      simp at hj
      subst hj
      unfold Addr.add
      rw [if_pos rfl, World.cell?_alloc_at _ _ _ _ rfl]
      rfl))]
  simp
  rfl
set_option maxRecDepth 100000 in
set_option maxHeartbeats 64000000 in
theorem globTells_walk (s0 s1 : List UInt8) (A2 : Option Addr) (c2 : Nat) (l2 : List (List UInt8)) (W : World) (hb0 : s0.length ≤ 140737488351232) (hb1 : s1.length ≤ 140737488351232)
    (hl2 : Rd W A2 (l2.map sv)) (hb2 : l2.length * 16 ≤ 140737488351232) (hs2 : ∀ x ∈ l2, x.length ≤ maxLen) :
    Calls Try.prog 3 #[sv s0, sv s1, .slice A2 l2.length c2] W fun e W' => e = .returned (.bool true) ∧ Below W.heap.size W W' := by
  have hmx : maxLen = 9223372036854775807 := by unfold maxLen; rfl
  rw [hmx] at hs2
  clear hmx
  have HM0 := Lib.hid (fun (W : World) => glMatch_any s0 s1 (by omega) (by omega) W)
  have HQ0 := Lib.hid (fun (W : World) => glQuote_any s1 (by omega) W)
  have HP0 := Lib.hid (fun (W : World) => glPlain_any s0 (by omega) W)
  have HK0 := Lib.hid (fun (W : World) (h : Rd W A2 (l2.map sv)) => glPick_any s0 A2 l2.length c2 l2 (by omega) W h rfl (by omega) hs2)
  have HL0 := Lib.hid (fun (W : World) => long_any s1 (by omega) W)
  have HC0 := Lib.hid (fun (W : World) (h : Rd W A2 (l2.map sv)) => hasLong_any A2 l2.length c2 l2 W h rfl (by omega) hs2)
  have HF0 := Lib.hid (fun (W : World) => rFault_any s0 (by omega) W)
  have HX0 := Lib.hid (fun (W : World) => pcCheck_any s0 (by omega) W)
  have HR0 := Lib.hid (fun (h : s0.length ≤ 60) (W : World) => rPieces_any s0 h W)
  have HT0 := Lib.hid (fun (A : Option Addr) (n c : Nat) (M : List GQ) (W : World) (hM : M.length = n) (hn : n ≤ 60) (hr : Rd W A (rps M)) (h : s1.length ≤ 2000) => rFits_any A n c M s1 W hM hn hr h)
  have HS0 := Lib.hid (strIs s0)
  have HS1 := Lib.hid (strIs s1)
  have HRL := Lib.hid hl2
  have HSX := Lib.hid hs2
  have hbs : (⟨s1.toArray⟩ : ByteArray).size ≤ 140737488351232 := hb1
  have hln : l2.length ≤ 9223372036854775807 := by omega
  have HLB := Lib.hid hb2
  obtain ⟨va, hva⟩ : ∃ v, matV s0 s1 = v := ⟨_, rfl⟩
  obtain ⟨ve, hve⟩ : ∃ v, errM s0 s1 = v := ⟨_, rfl⟩
  obtain ⟨bq, hbq⟩ : ∃ v, (⟨(quoS s1).toArray⟩ : ByteArray) = v := ⟨_, rfl⟩
  obtain ⟨qe, hqe⟩ : ∃ v, quoE s1 = v := ⟨_, rfl⟩
  obtain ⟨bt, hbt⟩ : ∃ v, (⟨((plnG s0).getD []).toArray⟩ : ByteArray) = v := ⟨_, rfl⟩
  obtain ⟨okt, hok⟩ : ∃ v, (plnG s0).isSome = v := ⟨_, rfl⟩
  obtain ⟨pe, hpe⟩ : ∃ v, errG s0 = v := ⟨_, rfl⟩
  rw [hva, hve] at HM0
  rw [hbq, hqe] at HQ0
  rw [hbt, hok] at HP0
  rw [hpe] at HF0 HX0
  have HVA := Lib.hid hva
  have HVE := Lib.hid hve
  have HBQ := Lib.hid hbq
  have HQE := Lib.hid hqe
  have HBT := Lib.hid hbt
  have HOK := Lib.hid hok
  have HPE := Lib.hid hpe
  clear hva hve hbq hqe hbt hok hpe hl2 hs2 hb2 hb0 hb1
  unfold sv
  generalize (⟨s0.toArray⟩ : ByteArray) = b0 at *
  generalize (⟨s1.toArray⟩ : ByteArray) = b1 at *
  generalize hn2 : l2.length = n2 at *
  have HN2 := Lib.hid hn2
  clear hn2
  go_enter Try.func3, Try.ntmps3
  go_wp2_with fail
  refine (HM0.out _).mono ?_
  rintro e w1 ⟨rfl, hb1⟩
  have HB1 := Lib.hid hb1
  clear hb1
  go_wp2_with fail
  refine (HQ0.out _).mono ?_
  rintro e w2 ⟨rfl, hb2⟩
  have HB2 := Lib.hid (below_then HB1.out hb2)
  clear hb2 HB1
  go_wp2_with fail
  refine (HP0.out _).mono ?_
  rintro e w3 ⟨rfl, hb3⟩
  have HB3 := Lib.hid (below_then HB2.out hb3)
  clear hb3 HB2
  go_wp2_with fail
  refine (HK0.out _ (HRL.out.below HB3.out)).mono ?_
  rintro e w4 ⟨hb4, hcase⟩
  have HB4 := Lib.hid (below_then HB3.out hb4)
  have HRL4 := Lib.hid (HRL.out.below HB4.out)
  clear hb4 HB3 HM0 HQ0 HP0 HK0 HRL
  rcases hcase with ⟨hno, rfl⟩ | ⟨M, AB, nb, cb, h0, h1, h3, h4, rfl⟩
  · obtain ⟨hno2, hno3⟩ : va = false ∧ ve = pe := ⟨by rw [← HVA.out]; unfold matV errM; rw [if_neg hno, if_neg hno], by rw [← HVE.out, ← HPE.out]; unfold errM; rw [if_neg hno]⟩
    subst hno2 hno3
    have hpn : plnG s0 = none := by unfold plnG; rw [if_neg hno]
    obtain rfl : okt = false := by rw [← HOK.out, hpn]; rfl
    obtain rfl : bt = ⟨#[]⟩ := by rw [← HBT.out, hpn]; rfl
    rw [HPE.out] at hno
    rw [HPE.out]
    have hno4 : ((ve : Int) != 0) = true := by simp; omega
    clear hpn hno
    cases hls : longG s1 with
    | true =>
      simp only [hls] at HL0
      clear hls
      go_wp2_with fail
      refine (HL0.out _).mono ?_
      rintro e w' ⟨rfl, rfl⟩
      go_wp2_with fail
      go_ret
      exact ⟨rfl, HB4.out⟩
    | false =>
      simp only [hls] at HL0
      have HLS := Lib.hid hls
      clear hls
      go_wp2_with fail
      refine (HL0.out _).mono ?_
      rintro e w' ⟨rfl, rfl⟩
      go_wp2_with fail
      refine (HC0.out _ HRL4.out).mono ?_
      rintro e w5 ⟨rfl, hb5⟩
      have HB5 := Lib.hid (below_then HB4.out hb5)
      have HRL5 := Lib.hid (HRL4.out.below hb5)
      clear hb5 HL0 HC0
      cases hal : l2.any longG with
      | true =>
        go_wp2_with fail
        go_ret
        exact ⟨rfl, HB5.out⟩
      | false =>
        have HAL := Lib.hid hal
        clear hal
        by_cases h60 : 60 < (quoteG s1).length
        · obtain rfl : qe = 2 := by rw [← HQE.out]; unfold quoE; rw [if_pos h60]
          obtain rfl : bq = ⟨#[]⟩ := by rw [← HBQ.out]; unfold quoS; rw [if_pos h60]
          have H60 := Lib.hid h60
          clear h60
          go_wp2_with fail
          go_loopw [16, 60] (fun x y wr => ∃ i : Nat, x = .string ⟨(quoteG (s1.take i)).toArray⟩ ∧ y = .int .i64 (i : Int) ∧ i ≤ b1.size ∧ Hid ((quoteG (s1.take i)).length ≤ 60) ∧ Hid (Below w5.heap.size w5 wr)) (fun _ y _ => b1.size - (intOf y).toNat)
          case atStart => exact ⟨0, rfl, rfl, by omega, Lib.hid (by simp [quoteG]), Lib.hid (Below.refl _ _)⟩
          case round =>
            obtain ⟨i, rfl, rfl, hi, HL, HBW⟩ := hrel
            by_cases hlt : i < b1.size
            · obtain ⟨c, hc⟩ : ∃ c, s1[i]? = some c := ⟨_, HS1.out.at_ hlt⟩
              have hsg : b1.extract i (i + 1) = ⟨#[c]⟩ := by rw [ext_seg HS1.out, seg_one hc]
              have HQS := Lib.hid (quote_step hc)
              have HQL := Lib.hid (quote_le s1 (i + 1))
              have i0 : (i : Int) < (b1.size : Int) := by omega
              have i1 : (i : Int) + 1 ≤ (b1.size : Int) := by omega
              have i2 : 0 ≤ (i : Int) + 1 := by omega
              have HPC := Lib.hid (place_any [[42], [63], [91], [93], [92]] [c] (wr.alloc (.cells #[.string ⟨#[42]⟩, .string ⟨#[63]⟩, .string ⟨#[91]⟩, .string ⟨#[93]⟩, .string ⟨#[92]⟩] 9)) (A := some ⟨wr.heap.size, 0, none⟩) (n := 5) (c := 5) (rd_lit wr wr.heap.size _ _ _ rfl rfl) rfl (by decide))
              have HBN := Lib.hid (below_then HBW.out (below_new (Below.refl wr.heap.size wr) (.cells #[.string ⟨#[42]⟩, .string ⟨#[63]⟩, .string ⟨#[91]⟩, .string ⟨#[93]⟩, .string ⟨#[92]⟩] 9)))
              clear hc
              go_wp2_with fail
              refine HPC.out.mono ?_
              rintro e w6 ⟨ix, rfl, rfl, hor⟩
              generalize wr.alloc (.cells #[.string ⟨#[42]⟩, .string ⟨#[63]⟩, .string ⟨#[91]⟩, .string ⟨#[93]⟩, .string ⟨#[92]⟩] 9) = wn at *
              generalize hBT : (⟨(quoteG (s1.take i)).toArray⟩ : ByteArray) = BT at *
              obtain ⟨BN, hBN⟩ : ∃ v, (⟨(quoteG (s1.take (i + 1))).toArray⟩ : ByteArray) = v := ⟨_, rfl⟩
              have HBNL : Hid (BN.size = (quoteG (s1.take (i + 1))).length) := Lib.hid (by rw [← hBN]; rfl)
              have HBNE := Lib.hid hBN
              have hBTs : BT.size ≤ 60 := by rw [← hBT]; exact HL.out
              rcases hor with ⟨rfl, hno⟩ | ⟨kx, rfl, hyes⟩
              · have hq : quoG c = false := by
                  rw [Bool.eq_false_iff]
                  exact fun h => hno ((place_quo c).2 h)
                have hcat : BT ++ ⟨#[c]⟩ = BN := by
                  rw [← hBT, ← hBN, HQS.out, hq]
                  exact cat_bytes _ [c]
                clear hno hq hBT hBN
                by_cases h6 : 60 < BN.size
                · go_upto_region 17 with fail
                  have HBX := HBN
                  have HBF := Lib.hid (below_then HB5.out HBX.out)
                  go_wp2_with fail
                  refine (HF0.out _).mono ?_
                  rintro e w8 ⟨rfl, hb8⟩
                  have HB8 := Lib.hid (below_then HBF.out hb8)
                  clear hb8
                  go_wp2_with fail
                  refine (HX0.out _).mono ?_
                  rintro e w9 ⟨rfl, hb9⟩
                  have HB9 := Lib.hid (below_then HB8.out hb9)
                  clear hb9
                  go_wp2_with fail
                  go_ret
                  exact ⟨rfl, HB9.out⟩
                · have h6i : BN.size ≤ 60 := by omega
                  have HL2 : Hid ((quoteG (s1.take (i + 1))).length ≤ 60) := Lib.hid (by rw [← HBNL.out]; exact h6i)
                  clear h6
                  go_wp2_with fail
                  exact ⟨⟨i + 1, congrArg Value.string HBNE.out.symm, rfl, by omega, HL2, HBN⟩, by simp only [intOf]; omega⟩
              · have hq : quoG c = true := (place_quo c).1 (List.mem_of_getElem? hyes)
                have hcat : BT ++ ⟨#[92]⟩ ++ ⟨#[c]⟩ = BN := by
                  rw [← hBT, ← hBN, HQS.out, hq]
                  rw [show (⟨#[92]⟩ : ByteArray) = ⟨[92].toArray⟩ from rfl, cat_bytes]
                  exact (cat_bytes _ [c]).trans (by simp)
                have hk0 : 0 ≤ (kx : Int) := by omega
                clear hyes hq hBT hBN
                by_cases h6 : 60 < BN.size
                · go_upto_region 17 with fail
                  have HBX := HBN
                  have HBF := Lib.hid (below_then HB5.out HBX.out)
                  go_wp2_with fail
                  refine (HF0.out _).mono ?_
                  rintro e w8 ⟨rfl, hb8⟩
                  have HB8 := Lib.hid (below_then HBF.out hb8)
                  clear hb8
                  go_wp2_with fail
                  refine (HX0.out _).mono ?_
                  rintro e w9 ⟨rfl, hb9⟩
                  have HB9 := Lib.hid (below_then HB8.out hb9)
                  clear hb9
                  go_wp2_with fail
                  go_ret
                  exact ⟨rfl, HB9.out⟩
                · have h6i : BN.size ≤ 60 := by omega
                  have HL2 : Hid ((quoteG (s1.take (i + 1))).length ≤ 60) := Lib.hid (by rw [← HBNL.out]; exact h6i)
                  clear h6
                  go_wp2_with fail
                  exact ⟨⟨i + 1, congrArg Value.string HBNE.out.symm, rfl, by omega, HL2, HBN⟩, by simp only [intOf]; omega⟩
            · exact absurd (show 60 < (quoteG (s1.take i)).length by rw [List.take_of_length_le (by rw [← HS1.out.size]; omega)]; exact H60.out) (by have := HL.out; omega)
        · obtain rfl : qe = 0 := by rw [← HQE.out]; unfold quoE; rw [if_neg h60]
          have HQG : Hid ((⟨(quoteG s1).toArray⟩ : ByteArray) = bq) := Lib.hid (by rw [← HBQ.out]; unfold quoS; rw [if_neg h60])
          have H60 := Lib.hid h60
          clear h60
          go_wp2_with fail
          go_loopw [16, 60] (fun x y wr => ∃ i : Nat, x = .string ⟨(quoteG (s1.take i)).toArray⟩ ∧ y = .int .i64 (i : Int) ∧ i ≤ b1.size ∧ Hid ((quoteG (s1.take i)).length ≤ 60) ∧ Hid (Below w5.heap.size w5 wr)) (fun _ y _ => b1.size - (intOf y).toNat)
          case atStart => exact ⟨0, rfl, rfl, by omega, Lib.hid (by simp [quoteG]), Lib.hid (Below.refl _ _)⟩
          case round =>
            obtain ⟨i, rfl, rfl, hi, HL, HBW⟩ := hrel
            by_cases hlt : i < b1.size
            · obtain ⟨c, hc⟩ : ∃ c, s1[i]? = some c := ⟨_, HS1.out.at_ hlt⟩
              have hsg : b1.extract i (i + 1) = ⟨#[c]⟩ := by rw [ext_seg HS1.out, seg_one hc]
              have HQS := Lib.hid (quote_step hc)
              have HQL := Lib.hid (quote_le s1 (i + 1))
              have i0 : (i : Int) < (b1.size : Int) := by omega
              have i1 : (i : Int) + 1 ≤ (b1.size : Int) := by omega
              have i2 : 0 ≤ (i : Int) + 1 := by omega
              have HPC := Lib.hid (place_any [[42], [63], [91], [93], [92]] [c] (wr.alloc (.cells #[.string ⟨#[42]⟩, .string ⟨#[63]⟩, .string ⟨#[91]⟩, .string ⟨#[93]⟩, .string ⟨#[92]⟩] 9)) (A := some ⟨wr.heap.size, 0, none⟩) (n := 5) (c := 5) (rd_lit wr wr.heap.size _ _ _ rfl rfl) rfl (by decide))
              have HBN := Lib.hid (below_then HBW.out (below_new (Below.refl wr.heap.size wr) (.cells #[.string ⟨#[42]⟩, .string ⟨#[63]⟩, .string ⟨#[91]⟩, .string ⟨#[93]⟩, .string ⟨#[92]⟩] 9)))
              clear hc
              go_wp2_with fail
              refine HPC.out.mono ?_
              rintro e w6 ⟨ix, rfl, rfl, hor⟩
              generalize wr.alloc (.cells #[.string ⟨#[42]⟩, .string ⟨#[63]⟩, .string ⟨#[91]⟩, .string ⟨#[93]⟩, .string ⟨#[92]⟩] 9) = wn at *
              generalize hBT : (⟨(quoteG (s1.take i)).toArray⟩ : ByteArray) = BT at *
              obtain ⟨BN, hBN⟩ : ∃ v, (⟨(quoteG (s1.take (i + 1))).toArray⟩ : ByteArray) = v := ⟨_, rfl⟩
              have HBNL : Hid (BN.size = (quoteG (s1.take (i + 1))).length) := Lib.hid (by rw [← hBN]; rfl)
              have HBNE := Lib.hid hBN
              have hBTs : BT.size ≤ 60 := by rw [← hBT]; exact HL.out
              rcases hor with ⟨rfl, hno⟩ | ⟨kx, rfl, hyes⟩
              · have hq : quoG c = false := by
                  rw [Bool.eq_false_iff]
                  exact fun h => hno ((place_quo c).2 h)
                have hcat : BT ++ ⟨#[c]⟩ = BN := by
                  rw [← hBT, ← hBN, HQS.out, hq]
                  exact cat_bytes _ [c]
                clear hno hq hBT hBN
                by_cases h6 : 60 < BN.size
                · exact absurd h6 (by rw [HBNL.out]; have := HQL.out; have := H60.out; omega)
                · have h6i : BN.size ≤ 60 := by omega
                  have HL2 : Hid ((quoteG (s1.take (i + 1))).length ≤ 60) := Lib.hid (by rw [← HBNL.out]; exact h6i)
                  clear h6
                  go_wp2_with fail
                  exact ⟨⟨i + 1, congrArg Value.string HBNE.out.symm, rfl, by omega, HL2, HBN⟩, by simp only [intOf]; omega⟩
              · have hq : quoG c = true := (place_quo c).1 (List.mem_of_getElem? hyes)
                have hcat : BT ++ ⟨#[92]⟩ ++ ⟨#[c]⟩ = BN := by
                  rw [← hBT, ← hBN, HQS.out, hq]
                  rw [show (⟨#[92]⟩ : ByteArray) = ⟨[92].toArray⟩ from rfl, cat_bytes]
                  exact (cat_bytes _ [c]).trans (by simp)
                have hk0 : 0 ≤ (kx : Int) := by omega
                clear hyes hq hBT hBN
                by_cases h6 : 60 < BN.size
                · exact absurd h6 (by rw [HBNL.out]; have := HQL.out; have := H60.out; omega)
                · have h6i : BN.size ≤ 60 := by omega
                  have HL2 : Hid ((quoteG (s1.take (i + 1))).length ≤ 60) := Lib.hid (by rw [← HBNL.out]; exact h6i)
                  clear h6
                  go_wp2_with fail
                  exact ⟨⟨i + 1, congrArg Value.string HBNE.out.symm, rfl, by omega, HL2, HBN⟩, by simp only [intOf]; omega⟩
            · have hib : i = b1.size := by omega
              subst hib
              have HXE : Hid ((⟨(quoteG (s1.take b1.size)).toArray⟩ : ByteArray) = bq) := Lib.hid (by rw [List.take_of_length_le (by rw [← HS1.out.size]; exact Nat.le_refl _)]; exact HQG.out)
              have hq6 : bq.size ≤ 60 := by
                rw [← HXE.out]
                exact HL.out
              go_upto_region 17 with fail
              rw [HXE.out]
              have HBX := HBW
              have HBF := Lib.hid (below_then HB5.out HBX.out)
              go_wp2_with fail
              refine (HF0.out _).mono ?_
              rintro e w8 ⟨rfl, hb8⟩
              have HB8 := Lib.hid (below_then HBF.out hb8)
              clear hb8
              go_wp2_with fail
              refine (HX0.out _).mono ?_
              rintro e w9 ⟨rfl, hb9⟩
              have HB9 := Lib.hid (below_then HB8.out hb9)
              clear hb9
              go_wp2_with fail
              go_ret
              exact ⟨rfl, HB9.out⟩
  · obtain rfl : pe = 0 := by rw [← HPE.out]; exact h0
    have hs60 : s0.length ≤ 60 := by
      unfold errG at h0
      split at h0
      · cases h0
      · omega
    have HPN := Lib.hid (pln_st h0 h1)
    have HSF := Lib.hid (parse_self _ _ _ (Nat.le_refl _) h1)
    have HVM : Hid (matV s0 s1 = if 2000 < s1.length then false else fitG M s1) := Lib.hid (by
      unfold matV errM
      rw [if_pos h0, h1]
      by_cases h : 2000 < s1.length
      · rw [if_pos h, if_pos h]; rfl
      · rw [if_neg h, if_neg h]; rfl)
    have HVR : Hid (errM s0 s1 = if 2000 < s1.length then 2 else 0) := Lib.hid (by unfold errM; rw [if_pos h0])
    have HP1 := Lib.hid h1
    have HNB := Lib.hid h3
    have HRB := Lib.hid (Rd.of_own h4)
    have HS60 := Lib.hid hs60
    clear h0 h1 h3 h4 hs60
    cases hls : longG s1 with
    | true =>
      simp only [hls] at HL0
      clear hls
      go_wp2_with fail
      refine (HL0.out _).mono ?_
      rintro e w' ⟨rfl, rfl⟩
      go_wp2_with fail
      go_ret
      exact ⟨rfl, HB4.out⟩
    | false =>
      simp only [hls] at HL0
      have HLS := Lib.hid hls
      clear hls
      go_wp2_with fail
      refine (HL0.out _).mono ?_
      rintro e w' ⟨rfl, rfl⟩
      go_wp2_with fail
      refine (HC0.out _ HRL4.out).mono ?_
      rintro e w5 ⟨rfl, hb5⟩
      have HB5 := Lib.hid (below_then HB4.out hb5)
      have HRL5 := Lib.hid (HRL4.out.below hb5)
      have HRB5 := Lib.hid (HRB.out.below hb5)
      clear hb5 HL0 HC0
      cases hal : l2.any longG with
      | true =>
        go_wp2_with fail
        go_ret
        exact ⟨rfl, HB5.out⟩
      | false =>
        have HAL := Lib.hid hal
        clear hal
        by_cases h60 : 60 < (quoteG s1).length
        · obtain rfl : qe = 2 := by rw [← HQE.out]; unfold quoE; rw [if_pos h60]
          obtain rfl : bq = ⟨#[]⟩ := by rw [← HBQ.out]; unfold quoS; rw [if_pos h60]
          have H60 := Lib.hid h60
          clear h60
          go_wp2_with fail
          go_loopw [16, 60] (fun x y wr => ∃ i : Nat, x = .string ⟨(quoteG (s1.take i)).toArray⟩ ∧ y = .int .i64 (i : Int) ∧ i ≤ b1.size ∧ Hid ((quoteG (s1.take i)).length ≤ 60) ∧ Hid (Below w5.heap.size w5 wr)) (fun _ y _ => b1.size - (intOf y).toNat)
          case atStart => exact ⟨0, rfl, rfl, by omega, Lib.hid (by simp [quoteG]), Lib.hid (Below.refl _ _)⟩
          case round =>
            obtain ⟨i, rfl, rfl, hi, HL, HBW⟩ := hrel
            by_cases hlt : i < b1.size
            · obtain ⟨c, hc⟩ : ∃ c, s1[i]? = some c := ⟨_, HS1.out.at_ hlt⟩
              have hsg : b1.extract i (i + 1) = ⟨#[c]⟩ := by rw [ext_seg HS1.out, seg_one hc]
              have HQS := Lib.hid (quote_step hc)
              have HQL := Lib.hid (quote_le s1 (i + 1))
              have i0 : (i : Int) < (b1.size : Int) := by omega
              have i1 : (i : Int) + 1 ≤ (b1.size : Int) := by omega
              have i2 : 0 ≤ (i : Int) + 1 := by omega
              have HPC := Lib.hid (place_any [[42], [63], [91], [93], [92]] [c] (wr.alloc (.cells #[.string ⟨#[42]⟩, .string ⟨#[63]⟩, .string ⟨#[91]⟩, .string ⟨#[93]⟩, .string ⟨#[92]⟩] 9)) (A := some ⟨wr.heap.size, 0, none⟩) (n := 5) (c := 5) (rd_lit wr wr.heap.size _ _ _ rfl rfl) rfl (by decide))
              have HBN := Lib.hid (below_then HBW.out (below_new (Below.refl wr.heap.size wr) (.cells #[.string ⟨#[42]⟩, .string ⟨#[63]⟩, .string ⟨#[91]⟩, .string ⟨#[93]⟩, .string ⟨#[92]⟩] 9)))
              clear hc
              go_wp2_with fail
              refine HPC.out.mono ?_
              rintro e w6 ⟨ix, rfl, rfl, hor⟩
              generalize wr.alloc (.cells #[.string ⟨#[42]⟩, .string ⟨#[63]⟩, .string ⟨#[91]⟩, .string ⟨#[93]⟩, .string ⟨#[92]⟩] 9) = wn at *
              generalize hBT : (⟨(quoteG (s1.take i)).toArray⟩ : ByteArray) = BT at *
              obtain ⟨BN, hBN⟩ : ∃ v, (⟨(quoteG (s1.take (i + 1))).toArray⟩ : ByteArray) = v := ⟨_, rfl⟩
              have HBNL : Hid (BN.size = (quoteG (s1.take (i + 1))).length) := Lib.hid (by rw [← hBN]; rfl)
              have HBNE := Lib.hid hBN
              have hBTs : BT.size ≤ 60 := by rw [← hBT]; exact HL.out
              rcases hor with ⟨rfl, hno⟩ | ⟨kx, rfl, hyes⟩
              · have hq : quoG c = false := by
                  rw [Bool.eq_false_iff]
                  exact fun h => hno ((place_quo c).2 h)
                have hcat : BT ++ ⟨#[c]⟩ = BN := by
                  rw [← hBT, ← hBN, HQS.out, hq]
                  exact cat_bytes _ [c]
                clear hno hq hBT hBN
                by_cases h6 : 60 < BN.size
                · go_upto_region 17 with fail
                  have HBX := HBN
                  have HBF := Lib.hid (below_then HB5.out HBX.out)
                  go_wp2_with fail
                  refine (HF0.out _).mono ?_
                  rintro e w8 ⟨rfl, hb8⟩
                  have HX8 := Lib.hid (below_then HBX.out hb8)
                  clear hb8 HBX
                  go_wp2_with fail
                  refine (HX0.out _).mono ?_
                  rintro e w9 ⟨rfl, hb9⟩
                  have HX9 := Lib.hid (below_then HX8.out hb9)
                  clear hb9 HX8
                  go_wp2_with fail
                  refine (HR0.out HS60.out _).mono ?_
                  rintro e w10 ⟨hb10, hc10⟩
                  have HX10 := Lib.hid (below_then HX9.out hb10)
                  clear hb10 HX9
                  rcases hc10 with ⟨hnn, _⟩ | ⟨M', A3, n3, c3, hm, hl3, hn3, ho3, rfl⟩
                  · rw [HP1.out] at hnn; cases hnn
                  · obtain rfl : M = M' := by rw [HP1.out] at hm; injection hm
                    have HRP := Lib.hid (rd_of_ownG ho3)
                    have HL3 := Lib.hid hl3
                    clear hm ho3 hl3
                    by_cases hbig : 2000 < b1.size
                    · obtain rfl : va = false := by rw [← HVA.out, HVM.out, if_pos (by rw [← HS1.out.size]; exact hbig)]
                      obtain rfl : ve = 2 := by rw [← HVE.out, HVR.out, if_pos (by rw [← HS1.out.size]; exact hbig)]
                      have HXB := HX10
                      have HRP2 := HRP
                      go_upto_region 27 with fail
                      clear hbig
                      generalize w10 = wb at *
                      have HBB := Lib.hid (below_then HB5.out HXB.out)
                      have HRLb := Lib.hid (HRL5.out.below HXB.out)
                      have HRBb := Lib.hid (HRB5.out.below HXB.out)
                      clear HXB HRL5 HRB5
                      go_wp2_with fail
                      go_loopw [21, 22, 175] (fun x y z wr => ∃ k : Nat, x = .string ⟨((stP (M.take k)).1).toArray⟩ ∧ y = .bool (stP (M.take k)).2 ∧ z = .int .i64 (k : Int) ∧ k ≤ n3 ∧ Hid (Below wb.heap.size wb wr)) (fun _ _ z _ => n3 - (intOf z).toNat)
                      case atStart => exact ⟨0, rfl, rfl, rfl, by omega, Lib.hid (Below.refl _ _)⟩
                      case round =>
                        obtain ⟨k, rfl, rfl, rfl, hk, HBW⟩ := hrel
                        by_cases hlt : k < n3
                        · obtain ⟨pg, hpg⟩ : ∃ pg, M[k]? = some pg := ⟨_, List.getElem?_eq_getElem (by rw [HL3.out]; exact hlt)⟩
                          obtain ⟨bA, off, rfl, hbl, hrg⟩ := Rd.rpiece HRP2.out hpg
                          have HRG := Lib.hid (range_below hrg HBW.out hbl)
                          have HST := Lib.hid (st_step hpg)
                          have hpl := st_len k (M.take k) (by rw [List.length_take, HL3.out]; omega)
                          have hself := HSF.out pg (List.mem_of_getElem? hpg)
                          have k0 : (k : Int) < (n3 : Int) := by omega
                          clear hpg hbl hrg
                          go_upto_region 31 with (first | (refine wpList_loadR _ rfl _ rfl bA (off + k * 258) pg.p.any pg.p.set pg.self rfl HRG.out ?_) | (refine wpList_allocR _ rfl rfl ?_) | (refine wpList_storeR _ rfl _ _ rfl wr.heap.size false pg.p.any noS pg.p.set 0 pg.self rfl rfl (Blk.new _ _ _) ?_; intro wc hkc hbc))
                          have HKC := Lib.hid hkc
                          have HBC := Lib.hid (below_then HBW.out ((below_new (Below.refl wr.heap.size wr) _).trans (hbc wr.heap.size (Nat.le_refl _))))
                          clear hkc hbc HRG
                          have cs := HKC.out.cell (rpL_self pg.p.any pg.p.set pg.self)
                          generalize hvo : (stP (M.take k)).2 = vo at *
                          generalize hvt : (stP (M.take k)).1 = vt at *
                          clear hvo hvt
                          cases vo with
                          | false =>
                            have HE1 : Hid (stP (M.take (k + 1)) = (vt, false)) := Lib.hid (by rw [HST.out]; rfl)
                            go_wp2_with fail
                            exact ⟨⟨k + 1, by rw [HE1.out], by rw [HE1.out], rfl, by omega, HBC⟩, by simp only [intOf]; omega⟩
                          | true =>
                            rcases hself with hse | ⟨d, hse⟩
                            · rw [hse] at cs HST
                              have HE1 : Hid (stP (M.take (k + 1)) = (vt, false)) := Lib.hid (by rw [HST.out]; rfl)
                              clear hse
                              go_wp2_with fail
                              exact ⟨⟨k + 1, by rw [HE1.out], by rw [HE1.out], rfl, by omega, HBC⟩, by simp only [intOf]; omega⟩
                            · rw [hse] at cs HST
                              have hd0 : 0 ≤ ((d.toNat : Nat) : Int) := by omega
                              have HE1 : Hid (stP (M.take (k + 1)) = (vt ++ [d], true)) := Lib.hid (by
                                rw [HST.out, Bool.true_and, if_pos (decide_eq_true hd0)]
                                simp)
                              have hw8 := wrap_u8 d
                              have hcv := conv_one wc d
                              have hcat : (⟨vt.toArray⟩ : ByteArray) ++ ⟨#[d]⟩ = ⟨(vt ++ [d]).toArray⟩ := cat_bytes vt [d]
                              have HBD := Lib.hid (below_then HBC.out (below_new (Below.refl wc.heap.size wc) (.cells #[.int .u8 ((d.toNat : Nat) : Int)] 5)))
                              clear hse
                              go_wp2_with fail
                              exact ⟨⟨k + 1, by rw [HE1.out], by rw [HE1.out], rfl, by omega, HBD⟩, by simp only [intOf]; omega⟩
                        · obtain rfl : k = n3 := by omega
                          have HTM : Hid (M.take k = M) := Lib.hid (List.take_of_length_le (by rw [HL3.out]; exact Nat.le_refl _))
                          have HBE := Lib.hid (below_then HBB.out HBW.out)
                          have HRLe := Lib.hid (HRLb.out.below HBW.out)
                          have HRBe := Lib.hid (HRBb.out.below HBW.out)
                          have HRPe := Lib.hid (HRP2.out.below HBW.out)
                          cases hv : (stP M).2 with
                          | true =>
                            obtain rfl : okt = true := by rw [← HOK.out, HPN.out, if_pos hv]; rfl
                            have hbt2 : (⟨((stP M).1).toArray⟩ : ByteArray) = bt := by rw [← HBT.out, HPN.out, if_pos hv]; rfl
                            rw [HTM.out, hv, hbt2]
                            clear hv hbt2
                            go_upto_region 37 with fail
                            generalize hwz : wr = wz at *
                            clear hwz
                            go_wp2_with fail
                            go_loopw [25, 217] (fun x y wq => ∃ (j q cO : Nat) (AO : Option Addr), x = .slice AO q cO ∧ y = .int .i64 (j : Int) ∧ j ≤ n2 ∧ q ≤ j ∧ Hid ((pickG M (l2.take j)).length = q) ∧ Hid (wq.ownsRow wz.heap.size 9 1 (.slice AO q cO) q ((pickG M (l2.take j)).map sv)) ∧ Hid (Below wz.heap.size wz wq)) (fun _ y _ => n2 - (intOf y).toNat)
                            case atStart => exact ⟨0, 0, 0, none, rfl, rfl, by omega, by omega, Lib.hid rfl, Lib.hid (World.ownsRow_nil _ _ _ _), Lib.hid (Below.refl _ _)⟩
                            case round =>
                              obtain ⟨j, q, cO, AO, rfl, rfl, hj, hqj, HQ, HO, HBQ'⟩ := hrel
                              by_cases hjl : j < n2
                              · obtain ⟨x, hx⟩ : ∃ x, l2[j]? = some x := ⟨_, List.getElem?_eq_getElem (by rw [HN2.out]; exact hjl)⟩
                                obtain ⟨bL, oL, rfl, hcx⟩ := (HRLe.out.below HBQ'.out).scell hx
                                have HPK := Lib.hid (pick_snoc M l2 hx)
                                have HFX := Lib.hid (fun (h : x.length ≤ 2000) W (hb : Below wz.heap.size wz W) => rFits_any A3 k c3 M x W HL3.out hn3 (HRPe.out.below hb) h)
                                clear hx
                                have hsz : (⟨x.toArray⟩ : ByteArray).size = x.length := rfl
                                have HSXX := Lib.hid (show Value.string ⟨x.toArray⟩ = sv x from rfl)
                                generalize (⟨x.toArray⟩ : ByteArray) = bx at *
                                have HSZ := Lib.hid hsz
                                clear hsz
                                by_cases hlen : bx.size ≤ 2000
                                · have hd : decide (x.length ≤ 2000) = true := decide_eq_true (by rw [← HSZ.out]; exact hlen)
                                  have HFY := Lib.hid (HFX.out (by rw [← HSZ.out]; exact hlen) _ HBQ'.out)
                                  cases hf : fitG M x with
                                  | true =>
                                    rw [hd, hf] at HPK
                                    rw [hf] at HFY
                                    clear hd hf HFX
                                    have hqn : (q + 1) * 16 ≤ 140737488355328 := by have := HLB.out; omega
                                    go_wp2_with (first | (go_at_call 16; refine HFY.out.mono ?_; rintro e w3 ⟨rfl, hb3⟩; have HO3 := Lib.hid (own_belowG HO.out hb3); have HB3 := Lib.hid (below_then HBQ'.out hb3); have hz3 := HB3.out.size) | (at_builtin; refine wpList_push elStr w3 _ _ wz.heap.size AO q cO _ (.string bx) HO3.out rfl hz3 hqn (by omega) rfl rfl rfl rfl ?_; intro A' c' w5' hown5 hb5))
                                    have HPE : Hid ((pickG M (l2.take (j + 1))).map sv = (pickG M (l2.take j)).map sv ++ [.string bx]) := Lib.hid (by rw [HPK.out, HSXX.out]; simp)
                                    have HPQ : Hid ((pickG M (l2.take (j + 1))).length = q + 1) := Lib.hid (by rw [HPK.out]; simp [HQ.out])
                                    exact ⟨⟨j + 1, q + 1, c', A', rfl, rfl, by omega, by omega, HPQ, Lib.hid (by rw [HPE.out]; exact hown5), Lib.hid (HB3.out.trans hb5)⟩, by simp only [intOf]; omega⟩
                                  | false =>
                                    rw [hd, hf] at HPK
                                    rw [hf] at HFY
                                    clear hd hf HFX
                                    go_wp2_with (go_at_call 16; refine HFY.out.mono ?_; rintro e w3 ⟨rfl, hb3⟩; have HO3 := Lib.hid (own_belowG HO.out hb3); have HB3 := Lib.hid (below_then HBQ'.out hb3))
                                    have HPE : Hid (pickG M (l2.take (j + 1)) = pickG M (l2.take j)) := Lib.hid (by rw [HPK.out]; simp)
                                    exact ⟨⟨j + 1, q, cO, AO, rfl, rfl, by omega, by omega, Lib.hid (by rw [HPE.out]; exact HQ.out), Lib.hid (by rw [HPE.out]; exact HO3.out), HB3⟩, by simp only [intOf]; omega⟩
                                · have hd : decide (x.length ≤ 2000) = false := decide_eq_false (by rw [← HSZ.out]; exact hlen)
                                  have hL : ¬ bx.size ≤ 2000 := hlen
                                  rw [hd] at HPK
                                  clear hd hlen HFX
                                  go_wp2_with fail
                                  have HPE : Hid (pickG M (l2.take (j + 1)) = pickG M (l2.take j)) := Lib.hid (by rw [HPK.out]; simp)
                                  exact ⟨⟨j + 1, q, cO, AO, rfl, rfl, by omega, by omega, Lib.hid (by rw [HPE.out]; exact HQ.out), Lib.hid (by rw [HPE.out]; exact HO.out), HBQ'⟩, by simp only [intOf]; omega⟩
                              · have hjn : j = n2 := by omega
                                subst hjn
                                have HT : Hid (l2.take j = l2) := Lib.hid (List.take_of_length_le (by rw [HN2.out]; exact Nat.le_refl _))
                                have HQ2 : Hid ((pickG M l2).length = q) := Lib.hid (by rw [← HT.out]; exact HQ.out)
                                have hqn : q = nb := by rw [← HQ2.out, HNB.out]
                                subst hqn
                                have HR1 := Lib.hid (HRBe.out.below HBQ'.out)
                                have HR2 : Hid (Rd wr AO ((pickG M l2).map sv)) := Lib.hid (by have h := HO.out; rw [HT.out] at h; exact Rd.of_own h)
                                have HEQ := Lib.hid (slSelf_any (c1 := cb) (c2 := cO) (pickG M l2) _ HR1.out HR2.out HQ2.out (by omega))
                                go_wp2_with (go_at_call 17; refine HEQ.out.mono ?_; rintro e w9' ⟨rfl, hb9⟩)
                                go_ret
                                exact ⟨rfl, below_then (below_then HBE.out HBQ'.out) hb9⟩
                          | false =>
                            obtain rfl : okt = false := by rw [← HOK.out, HPN.out, if_neg (by rw [hv]; decide)]; rfl
                            obtain rfl : bt = ⟨#[]⟩ := by rw [← HBT.out, HPN.out, if_neg (by rw [hv]; decide)]; rfl
                            rw [HTM.out, hv]
                            generalize (⟨((stP M).1).toArray⟩ : ByteArray) = bp at *
                            clear hv
                            go_upto_region 37 with fail
                            generalize hwz : wr = wz at *
                            clear hwz
                            go_wp2_with fail
                            go_loopw [25, 217] (fun x y wq => ∃ (j q cO : Nat) (AO : Option Addr), x = .slice AO q cO ∧ y = .int .i64 (j : Int) ∧ j ≤ n2 ∧ q ≤ j ∧ Hid ((pickG M (l2.take j)).length = q) ∧ Hid (wq.ownsRow wz.heap.size 9 1 (.slice AO q cO) q ((pickG M (l2.take j)).map sv)) ∧ Hid (Below wz.heap.size wz wq)) (fun _ y _ => n2 - (intOf y).toNat)
                            case atStart => exact ⟨0, 0, 0, none, rfl, rfl, by omega, by omega, Lib.hid rfl, Lib.hid (World.ownsRow_nil _ _ _ _), Lib.hid (Below.refl _ _)⟩
                            case round =>
                              obtain ⟨j, q, cO, AO, rfl, rfl, hj, hqj, HQ, HO, HBQ'⟩ := hrel
                              by_cases hjl : j < n2
                              · obtain ⟨x, hx⟩ : ∃ x, l2[j]? = some x := ⟨_, List.getElem?_eq_getElem (by rw [HN2.out]; exact hjl)⟩
                                obtain ⟨bL, oL, rfl, hcx⟩ := (HRLe.out.below HBQ'.out).scell hx
                                have HPK := Lib.hid (pick_snoc M l2 hx)
                                have HFX := Lib.hid (fun (h : x.length ≤ 2000) W (hb : Below wz.heap.size wz W) => rFits_any A3 k c3 M x W HL3.out hn3 (HRPe.out.below hb) h)
                                clear hx
                                have hsz : (⟨x.toArray⟩ : ByteArray).size = x.length := rfl
                                have HSXX := Lib.hid (show Value.string ⟨x.toArray⟩ = sv x from rfl)
                                generalize (⟨x.toArray⟩ : ByteArray) = bx at *
                                have HSZ := Lib.hid hsz
                                clear hsz
                                by_cases hlen : bx.size ≤ 2000
                                · have hd : decide (x.length ≤ 2000) = true := decide_eq_true (by rw [← HSZ.out]; exact hlen)
                                  have HFY := Lib.hid (HFX.out (by rw [← HSZ.out]; exact hlen) _ HBQ'.out)
                                  cases hf : fitG M x with
                                  | true =>
                                    rw [hd, hf] at HPK
                                    rw [hf] at HFY
                                    clear hd hf HFX
                                    have hqn : (q + 1) * 16 ≤ 140737488355328 := by have := HLB.out; omega
                                    go_wp2_with (first | (go_at_call 16; refine HFY.out.mono ?_; rintro e w3 ⟨rfl, hb3⟩; have HO3 := Lib.hid (own_belowG HO.out hb3); have HB3 := Lib.hid (below_then HBQ'.out hb3); have hz3 := HB3.out.size) | (at_builtin; refine wpList_push elStr w3 _ _ wz.heap.size AO q cO _ (.string bx) HO3.out rfl hz3 hqn (by omega) rfl rfl rfl rfl ?_; intro A' c' w5' hown5 hb5))
                                    have HPE : Hid ((pickG M (l2.take (j + 1))).map sv = (pickG M (l2.take j)).map sv ++ [.string bx]) := Lib.hid (by rw [HPK.out, HSXX.out]; simp)
                                    have HPQ : Hid ((pickG M (l2.take (j + 1))).length = q + 1) := Lib.hid (by rw [HPK.out]; simp [HQ.out])
                                    exact ⟨⟨j + 1, q + 1, c', A', rfl, rfl, by omega, by omega, HPQ, Lib.hid (by rw [HPE.out]; exact hown5), Lib.hid (HB3.out.trans hb5)⟩, by simp only [intOf]; omega⟩
                                  | false =>
                                    rw [hd, hf] at HPK
                                    rw [hf] at HFY
                                    clear hd hf HFX
                                    go_wp2_with (go_at_call 16; refine HFY.out.mono ?_; rintro e w3 ⟨rfl, hb3⟩; have HO3 := Lib.hid (own_belowG HO.out hb3); have HB3 := Lib.hid (below_then HBQ'.out hb3))
                                    have HPE : Hid (pickG M (l2.take (j + 1)) = pickG M (l2.take j)) := Lib.hid (by rw [HPK.out]; simp)
                                    exact ⟨⟨j + 1, q, cO, AO, rfl, rfl, by omega, by omega, Lib.hid (by rw [HPE.out]; exact HQ.out), Lib.hid (by rw [HPE.out]; exact HO3.out), HB3⟩, by simp only [intOf]; omega⟩
                                · have hd : decide (x.length ≤ 2000) = false := decide_eq_false (by rw [← HSZ.out]; exact hlen)
                                  have hL : ¬ bx.size ≤ 2000 := hlen
                                  rw [hd] at HPK
                                  clear hd hlen HFX
                                  go_wp2_with fail
                                  have HPE : Hid (pickG M (l2.take (j + 1)) = pickG M (l2.take j)) := Lib.hid (by rw [HPK.out]; simp)
                                  exact ⟨⟨j + 1, q, cO, AO, rfl, rfl, by omega, by omega, Lib.hid (by rw [HPE.out]; exact HQ.out), Lib.hid (by rw [HPE.out]; exact HO.out), HBQ'⟩, by simp only [intOf]; omega⟩
                              · have hjn : j = n2 := by omega
                                subst hjn
                                have HT : Hid (l2.take j = l2) := Lib.hid (List.take_of_length_le (by rw [HN2.out]; exact Nat.le_refl _))
                                have HQ2 : Hid ((pickG M l2).length = q) := Lib.hid (by rw [← HT.out]; exact HQ.out)
                                have hqn : q = nb := by rw [← HQ2.out, HNB.out]
                                subst hqn
                                have HR1 := Lib.hid (HRBe.out.below HBQ'.out)
                                have HR2 : Hid (Rd wr AO ((pickG M l2).map sv)) := Lib.hid (by have h := HO.out; rw [HT.out] at h; exact Rd.of_own h)
                                have HEQ := Lib.hid (slSelf_any (c1 := cb) (c2 := cO) (pickG M l2) _ HR1.out HR2.out HQ2.out (by omega))
                                go_wp2_with (go_at_call 17; refine HEQ.out.mono ?_; rintro e w9' ⟨rfl, hb9⟩)
                                go_ret
                                exact ⟨rfl, below_then (below_then HBE.out HBQ'.out) hb9⟩
                    · obtain rfl : ve = 0 := by rw [← HVE.out, HVR.out, if_neg (by rw [← HS1.out.size]; exact hbig)]
                      have hva : fitG M s1 = va := by rw [← HVA.out, HVM.out, if_neg (by rw [← HS1.out.size]; exact hbig)]
                      have hsm : b1.size ≤ 2000 := by omega
                      have HFT := Lib.hid (HT0.out A3 n3 c3 M w10 HL3.out hn3 HRP.out (by rw [← HS1.out.size]; exact hsm))
                      rw [hva] at HFT
                      clear hbig hva
                      go_wp2_with fail
                      refine HFT.out.mono ?_
                      rintro e wb ⟨rfl, hbb⟩
                      have HXB := Lib.hid (below_then HX10.out hbb)
                      have HRP2 := Lib.hid (HRP.out.below hbb)
                      clear hbb HFT
                      go_upto_region 27 with fail
                      have HBB := Lib.hid (below_then HB5.out HXB.out)
                      have HRLb := Lib.hid (HRL5.out.below HXB.out)
                      have HRBb := Lib.hid (HRB5.out.below HXB.out)
                      clear HXB HRL5 HRB5
                      go_wp2_with fail
                      go_loopw [21, 22, 175] (fun x y z wr => ∃ k : Nat, x = .string ⟨((stP (M.take k)).1).toArray⟩ ∧ y = .bool (stP (M.take k)).2 ∧ z = .int .i64 (k : Int) ∧ k ≤ n3 ∧ Hid (Below wb.heap.size wb wr)) (fun _ _ z _ => n3 - (intOf z).toNat)
                      case atStart => exact ⟨0, rfl, rfl, rfl, by omega, Lib.hid (Below.refl _ _)⟩
                      case round =>
                        obtain ⟨k, rfl, rfl, rfl, hk, HBW⟩ := hrel
                        by_cases hlt : k < n3
                        · obtain ⟨pg, hpg⟩ : ∃ pg, M[k]? = some pg := ⟨_, List.getElem?_eq_getElem (by rw [HL3.out]; exact hlt)⟩
                          obtain ⟨bA, off, rfl, hbl, hrg⟩ := Rd.rpiece HRP2.out hpg
                          have HRG := Lib.hid (range_below hrg HBW.out hbl)
                          have HST := Lib.hid (st_step hpg)
                          have hpl := st_len k (M.take k) (by rw [List.length_take, HL3.out]; omega)
                          have hself := HSF.out pg (List.mem_of_getElem? hpg)
                          have k0 : (k : Int) < (n3 : Int) := by omega
                          clear hpg hbl hrg
                          go_upto_region 31 with (first | (refine wpList_loadR _ rfl _ rfl bA (off + k * 258) pg.p.any pg.p.set pg.self rfl HRG.out ?_) | (refine wpList_allocR _ rfl rfl ?_) | (refine wpList_storeR _ rfl _ _ rfl wr.heap.size false pg.p.any noS pg.p.set 0 pg.self rfl rfl (Blk.new _ _ _) ?_; intro wc hkc hbc))
                          have HKC := Lib.hid hkc
                          have HBC := Lib.hid (below_then HBW.out ((below_new (Below.refl wr.heap.size wr) _).trans (hbc wr.heap.size (Nat.le_refl _))))
                          clear hkc hbc HRG
                          have cs := HKC.out.cell (rpL_self pg.p.any pg.p.set pg.self)
                          generalize hvo : (stP (M.take k)).2 = vo at *
                          generalize hvt : (stP (M.take k)).1 = vt at *
                          clear hvo hvt
                          cases vo with
                          | false =>
                            have HE1 : Hid (stP (M.take (k + 1)) = (vt, false)) := Lib.hid (by rw [HST.out]; rfl)
                            go_wp2_with fail
                            exact ⟨⟨k + 1, by rw [HE1.out], by rw [HE1.out], rfl, by omega, HBC⟩, by simp only [intOf]; omega⟩
                          | true =>
                            rcases hself with hse | ⟨d, hse⟩
                            · rw [hse] at cs HST
                              have HE1 : Hid (stP (M.take (k + 1)) = (vt, false)) := Lib.hid (by rw [HST.out]; rfl)
                              clear hse
                              go_wp2_with fail
                              exact ⟨⟨k + 1, by rw [HE1.out], by rw [HE1.out], rfl, by omega, HBC⟩, by simp only [intOf]; omega⟩
                            · rw [hse] at cs HST
                              have hd0 : 0 ≤ ((d.toNat : Nat) : Int) := by omega
                              have HE1 : Hid (stP (M.take (k + 1)) = (vt ++ [d], true)) := Lib.hid (by
                                rw [HST.out, Bool.true_and, if_pos (decide_eq_true hd0)]
                                simp)
                              have hw8 := wrap_u8 d
                              have hcv := conv_one wc d
                              have hcat : (⟨vt.toArray⟩ : ByteArray) ++ ⟨#[d]⟩ = ⟨(vt ++ [d]).toArray⟩ := cat_bytes vt [d]
                              have HBD := Lib.hid (below_then HBC.out (below_new (Below.refl wc.heap.size wc) (.cells #[.int .u8 ((d.toNat : Nat) : Int)] 5)))
                              clear hse
                              go_wp2_with fail
                              exact ⟨⟨k + 1, by rw [HE1.out], by rw [HE1.out], rfl, by omega, HBD⟩, by simp only [intOf]; omega⟩
                        · obtain rfl : k = n3 := by omega
                          have HTM : Hid (M.take k = M) := Lib.hid (List.take_of_length_le (by rw [HL3.out]; exact Nat.le_refl _))
                          have HBE := Lib.hid (below_then HBB.out HBW.out)
                          have HRLe := Lib.hid (HRLb.out.below HBW.out)
                          have HRBe := Lib.hid (HRBb.out.below HBW.out)
                          have HRPe := Lib.hid (HRP2.out.below HBW.out)
                          cases hv : (stP M).2 with
                          | true =>
                            obtain rfl : okt = true := by rw [← HOK.out, HPN.out, if_pos hv]; rfl
                            have hbt2 : (⟨((stP M).1).toArray⟩ : ByteArray) = bt := by rw [← HBT.out, HPN.out, if_pos hv]; rfl
                            rw [HTM.out, hv, hbt2]
                            clear hv hbt2
                            go_upto_region 37 with fail
                            generalize hwz : wr = wz at *
                            clear hwz
                            go_wp2_with fail
                            go_loopw [25, 217] (fun x y wq => ∃ (j q cO : Nat) (AO : Option Addr), x = .slice AO q cO ∧ y = .int .i64 (j : Int) ∧ j ≤ n2 ∧ q ≤ j ∧ Hid ((pickG M (l2.take j)).length = q) ∧ Hid (wq.ownsRow wz.heap.size 9 1 (.slice AO q cO) q ((pickG M (l2.take j)).map sv)) ∧ Hid (Below wz.heap.size wz wq)) (fun _ y _ => n2 - (intOf y).toNat)
                            case atStart => exact ⟨0, 0, 0, none, rfl, rfl, by omega, by omega, Lib.hid rfl, Lib.hid (World.ownsRow_nil _ _ _ _), Lib.hid (Below.refl _ _)⟩
                            case round =>
                              obtain ⟨j, q, cO, AO, rfl, rfl, hj, hqj, HQ, HO, HBQ'⟩ := hrel
                              by_cases hjl : j < n2
                              · obtain ⟨x, hx⟩ : ∃ x, l2[j]? = some x := ⟨_, List.getElem?_eq_getElem (by rw [HN2.out]; exact hjl)⟩
                                obtain ⟨bL, oL, rfl, hcx⟩ := (HRLe.out.below HBQ'.out).scell hx
                                have HPK := Lib.hid (pick_snoc M l2 hx)
                                have HFX := Lib.hid (fun (h : x.length ≤ 2000) W (hb : Below wz.heap.size wz W) => rFits_any A3 k c3 M x W HL3.out hn3 (HRPe.out.below hb) h)
                                clear hx
                                have hsz : (⟨x.toArray⟩ : ByteArray).size = x.length := rfl
                                have HSXX := Lib.hid (show Value.string ⟨x.toArray⟩ = sv x from rfl)
                                generalize (⟨x.toArray⟩ : ByteArray) = bx at *
                                have HSZ := Lib.hid hsz
                                clear hsz
                                by_cases hlen : bx.size ≤ 2000
                                · have hd : decide (x.length ≤ 2000) = true := decide_eq_true (by rw [← HSZ.out]; exact hlen)
                                  have HFY := Lib.hid (HFX.out (by rw [← HSZ.out]; exact hlen) _ HBQ'.out)
                                  cases hf : fitG M x with
                                  | true =>
                                    rw [hd, hf] at HPK
                                    rw [hf] at HFY
                                    clear hd hf HFX
                                    have hqn : (q + 1) * 16 ≤ 140737488355328 := by have := HLB.out; omega
                                    go_wp2_with (first | (go_at_call 16; refine HFY.out.mono ?_; rintro e w3 ⟨rfl, hb3⟩; have HO3 := Lib.hid (own_belowG HO.out hb3); have HB3 := Lib.hid (below_then HBQ'.out hb3); have hz3 := HB3.out.size) | (at_builtin; refine wpList_push elStr w3 _ _ wz.heap.size AO q cO _ (.string bx) HO3.out rfl hz3 hqn (by omega) rfl rfl rfl rfl ?_; intro A' c' w5' hown5 hb5))
                                    have HPE : Hid ((pickG M (l2.take (j + 1))).map sv = (pickG M (l2.take j)).map sv ++ [.string bx]) := Lib.hid (by rw [HPK.out, HSXX.out]; simp)
                                    have HPQ : Hid ((pickG M (l2.take (j + 1))).length = q + 1) := Lib.hid (by rw [HPK.out]; simp [HQ.out])
                                    exact ⟨⟨j + 1, q + 1, c', A', rfl, rfl, by omega, by omega, HPQ, Lib.hid (by rw [HPE.out]; exact hown5), Lib.hid (HB3.out.trans hb5)⟩, by simp only [intOf]; omega⟩
                                  | false =>
                                    rw [hd, hf] at HPK
                                    rw [hf] at HFY
                                    clear hd hf HFX
                                    go_wp2_with (go_at_call 16; refine HFY.out.mono ?_; rintro e w3 ⟨rfl, hb3⟩; have HO3 := Lib.hid (own_belowG HO.out hb3); have HB3 := Lib.hid (below_then HBQ'.out hb3))
                                    have HPE : Hid (pickG M (l2.take (j + 1)) = pickG M (l2.take j)) := Lib.hid (by rw [HPK.out]; simp)
                                    exact ⟨⟨j + 1, q, cO, AO, rfl, rfl, by omega, by omega, Lib.hid (by rw [HPE.out]; exact HQ.out), Lib.hid (by rw [HPE.out]; exact HO3.out), HB3⟩, by simp only [intOf]; omega⟩
                                · have hd : decide (x.length ≤ 2000) = false := decide_eq_false (by rw [← HSZ.out]; exact hlen)
                                  have hL : ¬ bx.size ≤ 2000 := hlen
                                  rw [hd] at HPK
                                  clear hd hlen HFX
                                  go_wp2_with fail
                                  have HPE : Hid (pickG M (l2.take (j + 1)) = pickG M (l2.take j)) := Lib.hid (by rw [HPK.out]; simp)
                                  exact ⟨⟨j + 1, q, cO, AO, rfl, rfl, by omega, by omega, Lib.hid (by rw [HPE.out]; exact HQ.out), Lib.hid (by rw [HPE.out]; exact HO.out), HBQ'⟩, by simp only [intOf]; omega⟩
                              · have hjn : j = n2 := by omega
                                subst hjn
                                have HT : Hid (l2.take j = l2) := Lib.hid (List.take_of_length_le (by rw [HN2.out]; exact Nat.le_refl _))
                                have HQ2 : Hid ((pickG M l2).length = q) := Lib.hid (by rw [← HT.out]; exact HQ.out)
                                have hqn : q = nb := by rw [← HQ2.out, HNB.out]
                                subst hqn
                                have HR1 := Lib.hid (HRBe.out.below HBQ'.out)
                                have HR2 : Hid (Rd wr AO ((pickG M l2).map sv)) := Lib.hid (by have h := HO.out; rw [HT.out] at h; exact Rd.of_own h)
                                have HEQ := Lib.hid (slSelf_any (c1 := cb) (c2 := cO) (pickG M l2) _ HR1.out HR2.out HQ2.out (by omega))
                                go_wp2_with (go_at_call 17; refine HEQ.out.mono ?_; rintro e w9' ⟨rfl, hb9⟩)
                                go_ret
                                exact ⟨rfl, below_then (below_then HBE.out HBQ'.out) hb9⟩
                          | false =>
                            obtain rfl : okt = false := by rw [← HOK.out, HPN.out, if_neg (by rw [hv]; decide)]; rfl
                            obtain rfl : bt = ⟨#[]⟩ := by rw [← HBT.out, HPN.out, if_neg (by rw [hv]; decide)]; rfl
                            rw [HTM.out, hv]
                            generalize (⟨((stP M).1).toArray⟩ : ByteArray) = bp at *
                            clear hv
                            go_upto_region 37 with fail
                            generalize hwz : wr = wz at *
                            clear hwz
                            go_wp2_with fail
                            go_loopw [25, 217] (fun x y wq => ∃ (j q cO : Nat) (AO : Option Addr), x = .slice AO q cO ∧ y = .int .i64 (j : Int) ∧ j ≤ n2 ∧ q ≤ j ∧ Hid ((pickG M (l2.take j)).length = q) ∧ Hid (wq.ownsRow wz.heap.size 9 1 (.slice AO q cO) q ((pickG M (l2.take j)).map sv)) ∧ Hid (Below wz.heap.size wz wq)) (fun _ y _ => n2 - (intOf y).toNat)
                            case atStart => exact ⟨0, 0, 0, none, rfl, rfl, by omega, by omega, Lib.hid rfl, Lib.hid (World.ownsRow_nil _ _ _ _), Lib.hid (Below.refl _ _)⟩
                            case round =>
                              obtain ⟨j, q, cO, AO, rfl, rfl, hj, hqj, HQ, HO, HBQ'⟩ := hrel
                              by_cases hjl : j < n2
                              · obtain ⟨x, hx⟩ : ∃ x, l2[j]? = some x := ⟨_, List.getElem?_eq_getElem (by rw [HN2.out]; exact hjl)⟩
                                obtain ⟨bL, oL, rfl, hcx⟩ := (HRLe.out.below HBQ'.out).scell hx
                                have HPK := Lib.hid (pick_snoc M l2 hx)
                                have HFX := Lib.hid (fun (h : x.length ≤ 2000) W (hb : Below wz.heap.size wz W) => rFits_any A3 k c3 M x W HL3.out hn3 (HRPe.out.below hb) h)
                                clear hx
                                have hsz : (⟨x.toArray⟩ : ByteArray).size = x.length := rfl
                                have HSXX := Lib.hid (show Value.string ⟨x.toArray⟩ = sv x from rfl)
                                generalize (⟨x.toArray⟩ : ByteArray) = bx at *
                                have HSZ := Lib.hid hsz
                                clear hsz
                                by_cases hlen : bx.size ≤ 2000
                                · have hd : decide (x.length ≤ 2000) = true := decide_eq_true (by rw [← HSZ.out]; exact hlen)
                                  have HFY := Lib.hid (HFX.out (by rw [← HSZ.out]; exact hlen) _ HBQ'.out)
                                  cases hf : fitG M x with
                                  | true =>
                                    rw [hd, hf] at HPK
                                    rw [hf] at HFY
                                    clear hd hf HFX
                                    have hqn : (q + 1) * 16 ≤ 140737488355328 := by have := HLB.out; omega
                                    go_wp2_with (first | (go_at_call 16; refine HFY.out.mono ?_; rintro e w3 ⟨rfl, hb3⟩; have HO3 := Lib.hid (own_belowG HO.out hb3); have HB3 := Lib.hid (below_then HBQ'.out hb3); have hz3 := HB3.out.size) | (at_builtin; refine wpList_push elStr w3 _ _ wz.heap.size AO q cO _ (.string bx) HO3.out rfl hz3 hqn (by omega) rfl rfl rfl rfl ?_; intro A' c' w5' hown5 hb5))
                                    have HPE : Hid ((pickG M (l2.take (j + 1))).map sv = (pickG M (l2.take j)).map sv ++ [.string bx]) := Lib.hid (by rw [HPK.out, HSXX.out]; simp)
                                    have HPQ : Hid ((pickG M (l2.take (j + 1))).length = q + 1) := Lib.hid (by rw [HPK.out]; simp [HQ.out])
                                    exact ⟨⟨j + 1, q + 1, c', A', rfl, rfl, by omega, by omega, HPQ, Lib.hid (by rw [HPE.out]; exact hown5), Lib.hid (HB3.out.trans hb5)⟩, by simp only [intOf]; omega⟩
                                  | false =>
                                    rw [hd, hf] at HPK
                                    rw [hf] at HFY
                                    clear hd hf HFX
                                    go_wp2_with (go_at_call 16; refine HFY.out.mono ?_; rintro e w3 ⟨rfl, hb3⟩; have HO3 := Lib.hid (own_belowG HO.out hb3); have HB3 := Lib.hid (below_then HBQ'.out hb3))
                                    have HPE : Hid (pickG M (l2.take (j + 1)) = pickG M (l2.take j)) := Lib.hid (by rw [HPK.out]; simp)
                                    exact ⟨⟨j + 1, q, cO, AO, rfl, rfl, by omega, by omega, Lib.hid (by rw [HPE.out]; exact HQ.out), Lib.hid (by rw [HPE.out]; exact HO3.out), HB3⟩, by simp only [intOf]; omega⟩
                                · have hd : decide (x.length ≤ 2000) = false := decide_eq_false (by rw [← HSZ.out]; exact hlen)
                                  have hL : ¬ bx.size ≤ 2000 := hlen
                                  rw [hd] at HPK
                                  clear hd hlen HFX
                                  go_wp2_with fail
                                  have HPE : Hid (pickG M (l2.take (j + 1)) = pickG M (l2.take j)) := Lib.hid (by rw [HPK.out]; simp)
                                  exact ⟨⟨j + 1, q, cO, AO, rfl, rfl, by omega, by omega, Lib.hid (by rw [HPE.out]; exact HQ.out), Lib.hid (by rw [HPE.out]; exact HO.out), HBQ'⟩, by simp only [intOf]; omega⟩
                              · have hjn : j = n2 := by omega
                                subst hjn
                                have HT : Hid (l2.take j = l2) := Lib.hid (List.take_of_length_le (by rw [HN2.out]; exact Nat.le_refl _))
                                have HQ2 : Hid ((pickG M l2).length = q) := Lib.hid (by rw [← HT.out]; exact HQ.out)
                                have hqn : q = nb := by rw [← HQ2.out, HNB.out]
                                subst hqn
                                have HR1 := Lib.hid (HRBe.out.below HBQ'.out)
                                have HR2 : Hid (Rd wr AO ((pickG M l2).map sv)) := Lib.hid (by have h := HO.out; rw [HT.out] at h; exact Rd.of_own h)
                                have HEQ := Lib.hid (slSelf_any (c1 := cb) (c2 := cO) (pickG M l2) _ HR1.out HR2.out HQ2.out (by omega))
                                go_wp2_with (go_at_call 17; refine HEQ.out.mono ?_; rintro e w9' ⟨rfl, hb9⟩)
                                go_ret
                                exact ⟨rfl, below_then (below_then HBE.out HBQ'.out) hb9⟩
                · have h6i : BN.size ≤ 60 := by omega
                  have HL2 : Hid ((quoteG (s1.take (i + 1))).length ≤ 60) := Lib.hid (by rw [← HBNL.out]; exact h6i)
                  clear h6
                  go_wp2_with fail
                  exact ⟨⟨i + 1, congrArg Value.string HBNE.out.symm, rfl, by omega, HL2, HBN⟩, by simp only [intOf]; omega⟩
              · have hq : quoG c = true := (place_quo c).1 (List.mem_of_getElem? hyes)
                have hcat : BT ++ ⟨#[92]⟩ ++ ⟨#[c]⟩ = BN := by
                  rw [← hBT, ← hBN, HQS.out, hq]
                  rw [show (⟨#[92]⟩ : ByteArray) = ⟨[92].toArray⟩ from rfl, cat_bytes]
                  exact (cat_bytes _ [c]).trans (by simp)
                have hk0 : 0 ≤ (kx : Int) := by omega
                clear hyes hq hBT hBN
                by_cases h6 : 60 < BN.size
                · go_upto_region 17 with fail
                  have HBX := HBN
                  have HBF := Lib.hid (below_then HB5.out HBX.out)
                  go_wp2_with fail
                  refine (HF0.out _).mono ?_
                  rintro e w8 ⟨rfl, hb8⟩
                  have HX8 := Lib.hid (below_then HBX.out hb8)
                  clear hb8 HBX
                  go_wp2_with fail
                  refine (HX0.out _).mono ?_
                  rintro e w9 ⟨rfl, hb9⟩
                  have HX9 := Lib.hid (below_then HX8.out hb9)
                  clear hb9 HX8
                  go_wp2_with fail
                  refine (HR0.out HS60.out _).mono ?_
                  rintro e w10 ⟨hb10, hc10⟩
                  have HX10 := Lib.hid (below_then HX9.out hb10)
                  clear hb10 HX9
                  rcases hc10 with ⟨hnn, _⟩ | ⟨M', A3, n3, c3, hm, hl3, hn3, ho3, rfl⟩
                  · rw [HP1.out] at hnn; cases hnn
                  · obtain rfl : M = M' := by rw [HP1.out] at hm; injection hm
                    have HRP := Lib.hid (rd_of_ownG ho3)
                    have HL3 := Lib.hid hl3
                    clear hm ho3 hl3
                    by_cases hbig : 2000 < b1.size
                    · obtain rfl : va = false := by rw [← HVA.out, HVM.out, if_pos (by rw [← HS1.out.size]; exact hbig)]
                      obtain rfl : ve = 2 := by rw [← HVE.out, HVR.out, if_pos (by rw [← HS1.out.size]; exact hbig)]
                      have HXB := HX10
                      have HRP2 := HRP
                      go_upto_region 27 with fail
                      clear hbig
                      generalize w10 = wb at *
                      have HBB := Lib.hid (below_then HB5.out HXB.out)
                      have HRLb := Lib.hid (HRL5.out.below HXB.out)
                      have HRBb := Lib.hid (HRB5.out.below HXB.out)
                      clear HXB HRL5 HRB5
                      go_wp2_with fail
                      go_loopw [21, 22, 175] (fun x y z wr => ∃ k : Nat, x = .string ⟨((stP (M.take k)).1).toArray⟩ ∧ y = .bool (stP (M.take k)).2 ∧ z = .int .i64 (k : Int) ∧ k ≤ n3 ∧ Hid (Below wb.heap.size wb wr)) (fun _ _ z _ => n3 - (intOf z).toNat)
                      case atStart => exact ⟨0, rfl, rfl, rfl, by omega, Lib.hid (Below.refl _ _)⟩
                      case round =>
                        obtain ⟨k, rfl, rfl, rfl, hk, HBW⟩ := hrel
                        by_cases hlt : k < n3
                        · obtain ⟨pg, hpg⟩ : ∃ pg, M[k]? = some pg := ⟨_, List.getElem?_eq_getElem (by rw [HL3.out]; exact hlt)⟩
                          obtain ⟨bA, off, rfl, hbl, hrg⟩ := Rd.rpiece HRP2.out hpg
                          have HRG := Lib.hid (range_below hrg HBW.out hbl)
                          have HST := Lib.hid (st_step hpg)
                          have hpl := st_len k (M.take k) (by rw [List.length_take, HL3.out]; omega)
                          have hself := HSF.out pg (List.mem_of_getElem? hpg)
                          have k0 : (k : Int) < (n3 : Int) := by omega
                          clear hpg hbl hrg
                          go_upto_region 31 with (first | (refine wpList_loadR _ rfl _ rfl bA (off + k * 258) pg.p.any pg.p.set pg.self rfl HRG.out ?_) | (refine wpList_allocR _ rfl rfl ?_) | (refine wpList_storeR _ rfl _ _ rfl wr.heap.size false pg.p.any noS pg.p.set 0 pg.self rfl rfl (Blk.new _ _ _) ?_; intro wc hkc hbc))
                          have HKC := Lib.hid hkc
                          have HBC := Lib.hid (below_then HBW.out ((below_new (Below.refl wr.heap.size wr) _).trans (hbc wr.heap.size (Nat.le_refl _))))
                          clear hkc hbc HRG
                          have cs := HKC.out.cell (rpL_self pg.p.any pg.p.set pg.self)
                          generalize hvo : (stP (M.take k)).2 = vo at *
                          generalize hvt : (stP (M.take k)).1 = vt at *
                          clear hvo hvt
                          cases vo with
                          | false =>
                            have HE1 : Hid (stP (M.take (k + 1)) = (vt, false)) := Lib.hid (by rw [HST.out]; rfl)
                            go_wp2_with fail
                            exact ⟨⟨k + 1, by rw [HE1.out], by rw [HE1.out], rfl, by omega, HBC⟩, by simp only [intOf]; omega⟩
                          | true =>
                            rcases hself with hse | ⟨d, hse⟩
                            · rw [hse] at cs HST
                              have HE1 : Hid (stP (M.take (k + 1)) = (vt, false)) := Lib.hid (by rw [HST.out]; rfl)
                              clear hse
                              go_wp2_with fail
                              exact ⟨⟨k + 1, by rw [HE1.out], by rw [HE1.out], rfl, by omega, HBC⟩, by simp only [intOf]; omega⟩
                            · rw [hse] at cs HST
                              have hd0 : 0 ≤ ((d.toNat : Nat) : Int) := by omega
                              have HE1 : Hid (stP (M.take (k + 1)) = (vt ++ [d], true)) := Lib.hid (by
                                rw [HST.out, Bool.true_and, if_pos (decide_eq_true hd0)]
                                simp)
                              have hw8 := wrap_u8 d
                              have hcv := conv_one wc d
                              have hcat : (⟨vt.toArray⟩ : ByteArray) ++ ⟨#[d]⟩ = ⟨(vt ++ [d]).toArray⟩ := cat_bytes vt [d]
                              have HBD := Lib.hid (below_then HBC.out (below_new (Below.refl wc.heap.size wc) (.cells #[.int .u8 ((d.toNat : Nat) : Int)] 5)))
                              clear hse
                              go_wp2_with fail
                              exact ⟨⟨k + 1, by rw [HE1.out], by rw [HE1.out], rfl, by omega, HBD⟩, by simp only [intOf]; omega⟩
                        · obtain rfl : k = n3 := by omega
                          have HTM : Hid (M.take k = M) := Lib.hid (List.take_of_length_le (by rw [HL3.out]; exact Nat.le_refl _))
                          have HBE := Lib.hid (below_then HBB.out HBW.out)
                          have HRLe := Lib.hid (HRLb.out.below HBW.out)
                          have HRBe := Lib.hid (HRBb.out.below HBW.out)
                          have HRPe := Lib.hid (HRP2.out.below HBW.out)
                          cases hv : (stP M).2 with
                          | true =>
                            obtain rfl : okt = true := by rw [← HOK.out, HPN.out, if_pos hv]; rfl
                            have hbt2 : (⟨((stP M).1).toArray⟩ : ByteArray) = bt := by rw [← HBT.out, HPN.out, if_pos hv]; rfl
                            rw [HTM.out, hv, hbt2]
                            clear hv hbt2
                            go_upto_region 37 with fail
                            generalize hwz : wr = wz at *
                            clear hwz
                            go_wp2_with fail
                            go_loopw [25, 217] (fun x y wq => ∃ (j q cO : Nat) (AO : Option Addr), x = .slice AO q cO ∧ y = .int .i64 (j : Int) ∧ j ≤ n2 ∧ q ≤ j ∧ Hid ((pickG M (l2.take j)).length = q) ∧ Hid (wq.ownsRow wz.heap.size 9 1 (.slice AO q cO) q ((pickG M (l2.take j)).map sv)) ∧ Hid (Below wz.heap.size wz wq)) (fun _ y _ => n2 - (intOf y).toNat)
                            case atStart => exact ⟨0, 0, 0, none, rfl, rfl, by omega, by omega, Lib.hid rfl, Lib.hid (World.ownsRow_nil _ _ _ _), Lib.hid (Below.refl _ _)⟩
                            case round =>
                              obtain ⟨j, q, cO, AO, rfl, rfl, hj, hqj, HQ, HO, HBQ'⟩ := hrel
                              by_cases hjl : j < n2
                              · obtain ⟨x, hx⟩ : ∃ x, l2[j]? = some x := ⟨_, List.getElem?_eq_getElem (by rw [HN2.out]; exact hjl)⟩
                                obtain ⟨bL, oL, rfl, hcx⟩ := (HRLe.out.below HBQ'.out).scell hx
                                have HPK := Lib.hid (pick_snoc M l2 hx)
                                have HFX := Lib.hid (fun (h : x.length ≤ 2000) W (hb : Below wz.heap.size wz W) => rFits_any A3 k c3 M x W HL3.out hn3 (HRPe.out.below hb) h)
                                clear hx
                                have hsz : (⟨x.toArray⟩ : ByteArray).size = x.length := rfl
                                have HSXX := Lib.hid (show Value.string ⟨x.toArray⟩ = sv x from rfl)
                                generalize (⟨x.toArray⟩ : ByteArray) = bx at *
                                have HSZ := Lib.hid hsz
                                clear hsz
                                by_cases hlen : bx.size ≤ 2000
                                · have hd : decide (x.length ≤ 2000) = true := decide_eq_true (by rw [← HSZ.out]; exact hlen)
                                  have HFY := Lib.hid (HFX.out (by rw [← HSZ.out]; exact hlen) _ HBQ'.out)
                                  cases hf : fitG M x with
                                  | true =>
                                    rw [hd, hf] at HPK
                                    rw [hf] at HFY
                                    clear hd hf HFX
                                    have hqn : (q + 1) * 16 ≤ 140737488355328 := by have := HLB.out; omega
                                    go_wp2_with (first | (go_at_call 16; refine HFY.out.mono ?_; rintro e w3 ⟨rfl, hb3⟩; have HO3 := Lib.hid (own_belowG HO.out hb3); have HB3 := Lib.hid (below_then HBQ'.out hb3); have hz3 := HB3.out.size) | (at_builtin; refine wpList_push elStr w3 _ _ wz.heap.size AO q cO _ (.string bx) HO3.out rfl hz3 hqn (by omega) rfl rfl rfl rfl ?_; intro A' c' w5' hown5 hb5))
                                    have HPE : Hid ((pickG M (l2.take (j + 1))).map sv = (pickG M (l2.take j)).map sv ++ [.string bx]) := Lib.hid (by rw [HPK.out, HSXX.out]; simp)
                                    have HPQ : Hid ((pickG M (l2.take (j + 1))).length = q + 1) := Lib.hid (by rw [HPK.out]; simp [HQ.out])
                                    exact ⟨⟨j + 1, q + 1, c', A', rfl, rfl, by omega, by omega, HPQ, Lib.hid (by rw [HPE.out]; exact hown5), Lib.hid (HB3.out.trans hb5)⟩, by simp only [intOf]; omega⟩
                                  | false =>
                                    rw [hd, hf] at HPK
                                    rw [hf] at HFY
                                    clear hd hf HFX
                                    go_wp2_with (go_at_call 16; refine HFY.out.mono ?_; rintro e w3 ⟨rfl, hb3⟩; have HO3 := Lib.hid (own_belowG HO.out hb3); have HB3 := Lib.hid (below_then HBQ'.out hb3))
                                    have HPE : Hid (pickG M (l2.take (j + 1)) = pickG M (l2.take j)) := Lib.hid (by rw [HPK.out]; simp)
                                    exact ⟨⟨j + 1, q, cO, AO, rfl, rfl, by omega, by omega, Lib.hid (by rw [HPE.out]; exact HQ.out), Lib.hid (by rw [HPE.out]; exact HO3.out), HB3⟩, by simp only [intOf]; omega⟩
                                · have hd : decide (x.length ≤ 2000) = false := decide_eq_false (by rw [← HSZ.out]; exact hlen)
                                  have hL : ¬ bx.size ≤ 2000 := hlen
                                  rw [hd] at HPK
                                  clear hd hlen HFX
                                  go_wp2_with fail
                                  have HPE : Hid (pickG M (l2.take (j + 1)) = pickG M (l2.take j)) := Lib.hid (by rw [HPK.out]; simp)
                                  exact ⟨⟨j + 1, q, cO, AO, rfl, rfl, by omega, by omega, Lib.hid (by rw [HPE.out]; exact HQ.out), Lib.hid (by rw [HPE.out]; exact HO.out), HBQ'⟩, by simp only [intOf]; omega⟩
                              · have hjn : j = n2 := by omega
                                subst hjn
                                have HT : Hid (l2.take j = l2) := Lib.hid (List.take_of_length_le (by rw [HN2.out]; exact Nat.le_refl _))
                                have HQ2 : Hid ((pickG M l2).length = q) := Lib.hid (by rw [← HT.out]; exact HQ.out)
                                have hqn : q = nb := by rw [← HQ2.out, HNB.out]
                                subst hqn
                                have HR1 := Lib.hid (HRBe.out.below HBQ'.out)
                                have HR2 : Hid (Rd wr AO ((pickG M l2).map sv)) := Lib.hid (by have h := HO.out; rw [HT.out] at h; exact Rd.of_own h)
                                have HEQ := Lib.hid (slSelf_any (c1 := cb) (c2 := cO) (pickG M l2) _ HR1.out HR2.out HQ2.out (by omega))
                                go_wp2_with (go_at_call 17; refine HEQ.out.mono ?_; rintro e w9' ⟨rfl, hb9⟩)
                                go_ret
                                exact ⟨rfl, below_then (below_then HBE.out HBQ'.out) hb9⟩
                          | false =>
                            obtain rfl : okt = false := by rw [← HOK.out, HPN.out, if_neg (by rw [hv]; decide)]; rfl
                            obtain rfl : bt = ⟨#[]⟩ := by rw [← HBT.out, HPN.out, if_neg (by rw [hv]; decide)]; rfl
                            rw [HTM.out, hv]
                            generalize (⟨((stP M).1).toArray⟩ : ByteArray) = bp at *
                            clear hv
                            go_upto_region 37 with fail
                            generalize hwz : wr = wz at *
                            clear hwz
                            go_wp2_with fail
                            go_loopw [25, 217] (fun x y wq => ∃ (j q cO : Nat) (AO : Option Addr), x = .slice AO q cO ∧ y = .int .i64 (j : Int) ∧ j ≤ n2 ∧ q ≤ j ∧ Hid ((pickG M (l2.take j)).length = q) ∧ Hid (wq.ownsRow wz.heap.size 9 1 (.slice AO q cO) q ((pickG M (l2.take j)).map sv)) ∧ Hid (Below wz.heap.size wz wq)) (fun _ y _ => n2 - (intOf y).toNat)
                            case atStart => exact ⟨0, 0, 0, none, rfl, rfl, by omega, by omega, Lib.hid rfl, Lib.hid (World.ownsRow_nil _ _ _ _), Lib.hid (Below.refl _ _)⟩
                            case round =>
                              obtain ⟨j, q, cO, AO, rfl, rfl, hj, hqj, HQ, HO, HBQ'⟩ := hrel
                              by_cases hjl : j < n2
                              · obtain ⟨x, hx⟩ : ∃ x, l2[j]? = some x := ⟨_, List.getElem?_eq_getElem (by rw [HN2.out]; exact hjl)⟩
                                obtain ⟨bL, oL, rfl, hcx⟩ := (HRLe.out.below HBQ'.out).scell hx
                                have HPK := Lib.hid (pick_snoc M l2 hx)
                                have HFX := Lib.hid (fun (h : x.length ≤ 2000) W (hb : Below wz.heap.size wz W) => rFits_any A3 k c3 M x W HL3.out hn3 (HRPe.out.below hb) h)
                                clear hx
                                have hsz : (⟨x.toArray⟩ : ByteArray).size = x.length := rfl
                                have HSXX := Lib.hid (show Value.string ⟨x.toArray⟩ = sv x from rfl)
                                generalize (⟨x.toArray⟩ : ByteArray) = bx at *
                                have HSZ := Lib.hid hsz
                                clear hsz
                                by_cases hlen : bx.size ≤ 2000
                                · have hd : decide (x.length ≤ 2000) = true := decide_eq_true (by rw [← HSZ.out]; exact hlen)
                                  have HFY := Lib.hid (HFX.out (by rw [← HSZ.out]; exact hlen) _ HBQ'.out)
                                  cases hf : fitG M x with
                                  | true =>
                                    rw [hd, hf] at HPK
                                    rw [hf] at HFY
                                    clear hd hf HFX
                                    have hqn : (q + 1) * 16 ≤ 140737488355328 := by have := HLB.out; omega
                                    go_wp2_with (first | (go_at_call 16; refine HFY.out.mono ?_; rintro e w3 ⟨rfl, hb3⟩; have HO3 := Lib.hid (own_belowG HO.out hb3); have HB3 := Lib.hid (below_then HBQ'.out hb3); have hz3 := HB3.out.size) | (at_builtin; refine wpList_push elStr w3 _ _ wz.heap.size AO q cO _ (.string bx) HO3.out rfl hz3 hqn (by omega) rfl rfl rfl rfl ?_; intro A' c' w5' hown5 hb5))
                                    have HPE : Hid ((pickG M (l2.take (j + 1))).map sv = (pickG M (l2.take j)).map sv ++ [.string bx]) := Lib.hid (by rw [HPK.out, HSXX.out]; simp)
                                    have HPQ : Hid ((pickG M (l2.take (j + 1))).length = q + 1) := Lib.hid (by rw [HPK.out]; simp [HQ.out])
                                    exact ⟨⟨j + 1, q + 1, c', A', rfl, rfl, by omega, by omega, HPQ, Lib.hid (by rw [HPE.out]; exact hown5), Lib.hid (HB3.out.trans hb5)⟩, by simp only [intOf]; omega⟩
                                  | false =>
                                    rw [hd, hf] at HPK
                                    rw [hf] at HFY
                                    clear hd hf HFX
                                    go_wp2_with (go_at_call 16; refine HFY.out.mono ?_; rintro e w3 ⟨rfl, hb3⟩; have HO3 := Lib.hid (own_belowG HO.out hb3); have HB3 := Lib.hid (below_then HBQ'.out hb3))
                                    have HPE : Hid (pickG M (l2.take (j + 1)) = pickG M (l2.take j)) := Lib.hid (by rw [HPK.out]; simp)
                                    exact ⟨⟨j + 1, q, cO, AO, rfl, rfl, by omega, by omega, Lib.hid (by rw [HPE.out]; exact HQ.out), Lib.hid (by rw [HPE.out]; exact HO3.out), HB3⟩, by simp only [intOf]; omega⟩
                                · have hd : decide (x.length ≤ 2000) = false := decide_eq_false (by rw [← HSZ.out]; exact hlen)
                                  have hL : ¬ bx.size ≤ 2000 := hlen
                                  rw [hd] at HPK
                                  clear hd hlen HFX
                                  go_wp2_with fail
                                  have HPE : Hid (pickG M (l2.take (j + 1)) = pickG M (l2.take j)) := Lib.hid (by rw [HPK.out]; simp)
                                  exact ⟨⟨j + 1, q, cO, AO, rfl, rfl, by omega, by omega, Lib.hid (by rw [HPE.out]; exact HQ.out), Lib.hid (by rw [HPE.out]; exact HO.out), HBQ'⟩, by simp only [intOf]; omega⟩
                              · have hjn : j = n2 := by omega
                                subst hjn
                                have HT : Hid (l2.take j = l2) := Lib.hid (List.take_of_length_le (by rw [HN2.out]; exact Nat.le_refl _))
                                have HQ2 : Hid ((pickG M l2).length = q) := Lib.hid (by rw [← HT.out]; exact HQ.out)
                                have hqn : q = nb := by rw [← HQ2.out, HNB.out]
                                subst hqn
                                have HR1 := Lib.hid (HRBe.out.below HBQ'.out)
                                have HR2 : Hid (Rd wr AO ((pickG M l2).map sv)) := Lib.hid (by have h := HO.out; rw [HT.out] at h; exact Rd.of_own h)
                                have HEQ := Lib.hid (slSelf_any (c1 := cb) (c2 := cO) (pickG M l2) _ HR1.out HR2.out HQ2.out (by omega))
                                go_wp2_with (go_at_call 17; refine HEQ.out.mono ?_; rintro e w9' ⟨rfl, hb9⟩)
                                go_ret
                                exact ⟨rfl, below_then (below_then HBE.out HBQ'.out) hb9⟩
                    · obtain rfl : ve = 0 := by rw [← HVE.out, HVR.out, if_neg (by rw [← HS1.out.size]; exact hbig)]
                      have hva : fitG M s1 = va := by rw [← HVA.out, HVM.out, if_neg (by rw [← HS1.out.size]; exact hbig)]
                      have hsm : b1.size ≤ 2000 := by omega
                      have HFT := Lib.hid (HT0.out A3 n3 c3 M w10 HL3.out hn3 HRP.out (by rw [← HS1.out.size]; exact hsm))
                      rw [hva] at HFT
                      clear hbig hva
                      go_wp2_with fail
                      refine HFT.out.mono ?_
                      rintro e wb ⟨rfl, hbb⟩
                      have HXB := Lib.hid (below_then HX10.out hbb)
                      have HRP2 := Lib.hid (HRP.out.below hbb)
                      clear hbb HFT
                      go_upto_region 27 with fail
                      have HBB := Lib.hid (below_then HB5.out HXB.out)
                      have HRLb := Lib.hid (HRL5.out.below HXB.out)
                      have HRBb := Lib.hid (HRB5.out.below HXB.out)
                      clear HXB HRL5 HRB5
                      go_wp2_with fail
                      go_loopw [21, 22, 175] (fun x y z wr => ∃ k : Nat, x = .string ⟨((stP (M.take k)).1).toArray⟩ ∧ y = .bool (stP (M.take k)).2 ∧ z = .int .i64 (k : Int) ∧ k ≤ n3 ∧ Hid (Below wb.heap.size wb wr)) (fun _ _ z _ => n3 - (intOf z).toNat)
                      case atStart => exact ⟨0, rfl, rfl, rfl, by omega, Lib.hid (Below.refl _ _)⟩
                      case round =>
                        obtain ⟨k, rfl, rfl, rfl, hk, HBW⟩ := hrel
                        by_cases hlt : k < n3
                        · obtain ⟨pg, hpg⟩ : ∃ pg, M[k]? = some pg := ⟨_, List.getElem?_eq_getElem (by rw [HL3.out]; exact hlt)⟩
                          obtain ⟨bA, off, rfl, hbl, hrg⟩ := Rd.rpiece HRP2.out hpg
                          have HRG := Lib.hid (range_below hrg HBW.out hbl)
                          have HST := Lib.hid (st_step hpg)
                          have hpl := st_len k (M.take k) (by rw [List.length_take, HL3.out]; omega)
                          have hself := HSF.out pg (List.mem_of_getElem? hpg)
                          have k0 : (k : Int) < (n3 : Int) := by omega
                          clear hpg hbl hrg
                          go_upto_region 31 with (first | (refine wpList_loadR _ rfl _ rfl bA (off + k * 258) pg.p.any pg.p.set pg.self rfl HRG.out ?_) | (refine wpList_allocR _ rfl rfl ?_) | (refine wpList_storeR _ rfl _ _ rfl wr.heap.size false pg.p.any noS pg.p.set 0 pg.self rfl rfl (Blk.new _ _ _) ?_; intro wc hkc hbc))
                          have HKC := Lib.hid hkc
                          have HBC := Lib.hid (below_then HBW.out ((below_new (Below.refl wr.heap.size wr) _).trans (hbc wr.heap.size (Nat.le_refl _))))
                          clear hkc hbc HRG
                          have cs := HKC.out.cell (rpL_self pg.p.any pg.p.set pg.self)
                          generalize hvo : (stP (M.take k)).2 = vo at *
                          generalize hvt : (stP (M.take k)).1 = vt at *
                          clear hvo hvt
                          cases vo with
                          | false =>
                            have HE1 : Hid (stP (M.take (k + 1)) = (vt, false)) := Lib.hid (by rw [HST.out]; rfl)
                            go_wp2_with fail
                            exact ⟨⟨k + 1, by rw [HE1.out], by rw [HE1.out], rfl, by omega, HBC⟩, by simp only [intOf]; omega⟩
                          | true =>
                            rcases hself with hse | ⟨d, hse⟩
                            · rw [hse] at cs HST
                              have HE1 : Hid (stP (M.take (k + 1)) = (vt, false)) := Lib.hid (by rw [HST.out]; rfl)
                              clear hse
                              go_wp2_with fail
                              exact ⟨⟨k + 1, by rw [HE1.out], by rw [HE1.out], rfl, by omega, HBC⟩, by simp only [intOf]; omega⟩
                            · rw [hse] at cs HST
                              have hd0 : 0 ≤ ((d.toNat : Nat) : Int) := by omega
                              have HE1 : Hid (stP (M.take (k + 1)) = (vt ++ [d], true)) := Lib.hid (by
                                rw [HST.out, Bool.true_and, if_pos (decide_eq_true hd0)]
                                simp)
                              have hw8 := wrap_u8 d
                              have hcv := conv_one wc d
                              have hcat : (⟨vt.toArray⟩ : ByteArray) ++ ⟨#[d]⟩ = ⟨(vt ++ [d]).toArray⟩ := cat_bytes vt [d]
                              have HBD := Lib.hid (below_then HBC.out (below_new (Below.refl wc.heap.size wc) (.cells #[.int .u8 ((d.toNat : Nat) : Int)] 5)))
                              clear hse
                              go_wp2_with fail
                              exact ⟨⟨k + 1, by rw [HE1.out], by rw [HE1.out], rfl, by omega, HBD⟩, by simp only [intOf]; omega⟩
                        · obtain rfl : k = n3 := by omega
                          have HTM : Hid (M.take k = M) := Lib.hid (List.take_of_length_le (by rw [HL3.out]; exact Nat.le_refl _))
                          have HBE := Lib.hid (below_then HBB.out HBW.out)
                          have HRLe := Lib.hid (HRLb.out.below HBW.out)
                          have HRBe := Lib.hid (HRBb.out.below HBW.out)
                          have HRPe := Lib.hid (HRP2.out.below HBW.out)
                          cases hv : (stP M).2 with
                          | true =>
                            obtain rfl : okt = true := by rw [← HOK.out, HPN.out, if_pos hv]; rfl
                            have hbt2 : (⟨((stP M).1).toArray⟩ : ByteArray) = bt := by rw [← HBT.out, HPN.out, if_pos hv]; rfl
                            rw [HTM.out, hv, hbt2]
                            clear hv hbt2
                            go_upto_region 37 with fail
                            generalize hwz : wr = wz at *
                            clear hwz
                            go_wp2_with fail
                            go_loopw [25, 217] (fun x y wq => ∃ (j q cO : Nat) (AO : Option Addr), x = .slice AO q cO ∧ y = .int .i64 (j : Int) ∧ j ≤ n2 ∧ q ≤ j ∧ Hid ((pickG M (l2.take j)).length = q) ∧ Hid (wq.ownsRow wz.heap.size 9 1 (.slice AO q cO) q ((pickG M (l2.take j)).map sv)) ∧ Hid (Below wz.heap.size wz wq)) (fun _ y _ => n2 - (intOf y).toNat)
                            case atStart => exact ⟨0, 0, 0, none, rfl, rfl, by omega, by omega, Lib.hid rfl, Lib.hid (World.ownsRow_nil _ _ _ _), Lib.hid (Below.refl _ _)⟩
                            case round =>
                              obtain ⟨j, q, cO, AO, rfl, rfl, hj, hqj, HQ, HO, HBQ'⟩ := hrel
                              by_cases hjl : j < n2
                              · obtain ⟨x, hx⟩ : ∃ x, l2[j]? = some x := ⟨_, List.getElem?_eq_getElem (by rw [HN2.out]; exact hjl)⟩
                                obtain ⟨bL, oL, rfl, hcx⟩ := (HRLe.out.below HBQ'.out).scell hx
                                have HPK := Lib.hid (pick_snoc M l2 hx)
                                have HFX := Lib.hid (fun (h : x.length ≤ 2000) W (hb : Below wz.heap.size wz W) => rFits_any A3 k c3 M x W HL3.out hn3 (HRPe.out.below hb) h)
                                clear hx
                                have hsz : (⟨x.toArray⟩ : ByteArray).size = x.length := rfl
                                have HSXX := Lib.hid (show Value.string ⟨x.toArray⟩ = sv x from rfl)
                                generalize (⟨x.toArray⟩ : ByteArray) = bx at *
                                have HSZ := Lib.hid hsz
                                clear hsz
                                by_cases hlen : bx.size ≤ 2000
                                · have hd : decide (x.length ≤ 2000) = true := decide_eq_true (by rw [← HSZ.out]; exact hlen)
                                  have HFY := Lib.hid (HFX.out (by rw [← HSZ.out]; exact hlen) _ HBQ'.out)
                                  cases hf : fitG M x with
                                  | true =>
                                    rw [hd, hf] at HPK
                                    rw [hf] at HFY
                                    clear hd hf HFX
                                    have hqn : (q + 1) * 16 ≤ 140737488355328 := by have := HLB.out; omega
                                    go_wp2_with (first | (go_at_call 16; refine HFY.out.mono ?_; rintro e w3 ⟨rfl, hb3⟩; have HO3 := Lib.hid (own_belowG HO.out hb3); have HB3 := Lib.hid (below_then HBQ'.out hb3); have hz3 := HB3.out.size) | (at_builtin; refine wpList_push elStr w3 _ _ wz.heap.size AO q cO _ (.string bx) HO3.out rfl hz3 hqn (by omega) rfl rfl rfl rfl ?_; intro A' c' w5' hown5 hb5))
                                    have HPE : Hid ((pickG M (l2.take (j + 1))).map sv = (pickG M (l2.take j)).map sv ++ [.string bx]) := Lib.hid (by rw [HPK.out, HSXX.out]; simp)
                                    have HPQ : Hid ((pickG M (l2.take (j + 1))).length = q + 1) := Lib.hid (by rw [HPK.out]; simp [HQ.out])
                                    exact ⟨⟨j + 1, q + 1, c', A', rfl, rfl, by omega, by omega, HPQ, Lib.hid (by rw [HPE.out]; exact hown5), Lib.hid (HB3.out.trans hb5)⟩, by simp only [intOf]; omega⟩
                                  | false =>
                                    rw [hd, hf] at HPK
                                    rw [hf] at HFY
                                    clear hd hf HFX
                                    go_wp2_with (go_at_call 16; refine HFY.out.mono ?_; rintro e w3 ⟨rfl, hb3⟩; have HO3 := Lib.hid (own_belowG HO.out hb3); have HB3 := Lib.hid (below_then HBQ'.out hb3))
                                    have HPE : Hid (pickG M (l2.take (j + 1)) = pickG M (l2.take j)) := Lib.hid (by rw [HPK.out]; simp)
                                    exact ⟨⟨j + 1, q, cO, AO, rfl, rfl, by omega, by omega, Lib.hid (by rw [HPE.out]; exact HQ.out), Lib.hid (by rw [HPE.out]; exact HO3.out), HB3⟩, by simp only [intOf]; omega⟩
                                · have hd : decide (x.length ≤ 2000) = false := decide_eq_false (by rw [← HSZ.out]; exact hlen)
                                  have hL : ¬ bx.size ≤ 2000 := hlen
                                  rw [hd] at HPK
                                  clear hd hlen HFX
                                  go_wp2_with fail
                                  have HPE : Hid (pickG M (l2.take (j + 1)) = pickG M (l2.take j)) := Lib.hid (by rw [HPK.out]; simp)
                                  exact ⟨⟨j + 1, q, cO, AO, rfl, rfl, by omega, by omega, Lib.hid (by rw [HPE.out]; exact HQ.out), Lib.hid (by rw [HPE.out]; exact HO.out), HBQ'⟩, by simp only [intOf]; omega⟩
                              · have hjn : j = n2 := by omega
                                subst hjn
                                have HT : Hid (l2.take j = l2) := Lib.hid (List.take_of_length_le (by rw [HN2.out]; exact Nat.le_refl _))
                                have HQ2 : Hid ((pickG M l2).length = q) := Lib.hid (by rw [← HT.out]; exact HQ.out)
                                have hqn : q = nb := by rw [← HQ2.out, HNB.out]
                                subst hqn
                                have HR1 := Lib.hid (HRBe.out.below HBQ'.out)
                                have HR2 : Hid (Rd wr AO ((pickG M l2).map sv)) := Lib.hid (by have h := HO.out; rw [HT.out] at h; exact Rd.of_own h)
                                have HEQ := Lib.hid (slSelf_any (c1 := cb) (c2 := cO) (pickG M l2) _ HR1.out HR2.out HQ2.out (by omega))
                                go_wp2_with (go_at_call 17; refine HEQ.out.mono ?_; rintro e w9' ⟨rfl, hb9⟩)
                                go_ret
                                exact ⟨rfl, below_then (below_then HBE.out HBQ'.out) hb9⟩
                          | false =>
                            obtain rfl : okt = false := by rw [← HOK.out, HPN.out, if_neg (by rw [hv]; decide)]; rfl
                            obtain rfl : bt = ⟨#[]⟩ := by rw [← HBT.out, HPN.out, if_neg (by rw [hv]; decide)]; rfl
                            rw [HTM.out, hv]
                            generalize (⟨((stP M).1).toArray⟩ : ByteArray) = bp at *
                            clear hv
                            go_upto_region 37 with fail
                            generalize hwz : wr = wz at *
                            clear hwz
                            go_wp2_with fail
                            go_loopw [25, 217] (fun x y wq => ∃ (j q cO : Nat) (AO : Option Addr), x = .slice AO q cO ∧ y = .int .i64 (j : Int) ∧ j ≤ n2 ∧ q ≤ j ∧ Hid ((pickG M (l2.take j)).length = q) ∧ Hid (wq.ownsRow wz.heap.size 9 1 (.slice AO q cO) q ((pickG M (l2.take j)).map sv)) ∧ Hid (Below wz.heap.size wz wq)) (fun _ y _ => n2 - (intOf y).toNat)
                            case atStart => exact ⟨0, 0, 0, none, rfl, rfl, by omega, by omega, Lib.hid rfl, Lib.hid (World.ownsRow_nil _ _ _ _), Lib.hid (Below.refl _ _)⟩
                            case round =>
                              obtain ⟨j, q, cO, AO, rfl, rfl, hj, hqj, HQ, HO, HBQ'⟩ := hrel
                              by_cases hjl : j < n2
                              · obtain ⟨x, hx⟩ : ∃ x, l2[j]? = some x := ⟨_, List.getElem?_eq_getElem (by rw [HN2.out]; exact hjl)⟩
                                obtain ⟨bL, oL, rfl, hcx⟩ := (HRLe.out.below HBQ'.out).scell hx
                                have HPK := Lib.hid (pick_snoc M l2 hx)
                                have HFX := Lib.hid (fun (h : x.length ≤ 2000) W (hb : Below wz.heap.size wz W) => rFits_any A3 k c3 M x W HL3.out hn3 (HRPe.out.below hb) h)
                                clear hx
                                have hsz : (⟨x.toArray⟩ : ByteArray).size = x.length := rfl
                                have HSXX := Lib.hid (show Value.string ⟨x.toArray⟩ = sv x from rfl)
                                generalize (⟨x.toArray⟩ : ByteArray) = bx at *
                                have HSZ := Lib.hid hsz
                                clear hsz
                                by_cases hlen : bx.size ≤ 2000
                                · have hd : decide (x.length ≤ 2000) = true := decide_eq_true (by rw [← HSZ.out]; exact hlen)
                                  have HFY := Lib.hid (HFX.out (by rw [← HSZ.out]; exact hlen) _ HBQ'.out)
                                  cases hf : fitG M x with
                                  | true =>
                                    rw [hd, hf] at HPK
                                    rw [hf] at HFY
                                    clear hd hf HFX
                                    have hqn : (q + 1) * 16 ≤ 140737488355328 := by have := HLB.out; omega
                                    go_wp2_with (first | (go_at_call 16; refine HFY.out.mono ?_; rintro e w3 ⟨rfl, hb3⟩; have HO3 := Lib.hid (own_belowG HO.out hb3); have HB3 := Lib.hid (below_then HBQ'.out hb3); have hz3 := HB3.out.size) | (at_builtin; refine wpList_push elStr w3 _ _ wz.heap.size AO q cO _ (.string bx) HO3.out rfl hz3 hqn (by omega) rfl rfl rfl rfl ?_; intro A' c' w5' hown5 hb5))
                                    have HPE : Hid ((pickG M (l2.take (j + 1))).map sv = (pickG M (l2.take j)).map sv ++ [.string bx]) := Lib.hid (by rw [HPK.out, HSXX.out]; simp)
                                    have HPQ : Hid ((pickG M (l2.take (j + 1))).length = q + 1) := Lib.hid (by rw [HPK.out]; simp [HQ.out])
                                    exact ⟨⟨j + 1, q + 1, c', A', rfl, rfl, by omega, by omega, HPQ, Lib.hid (by rw [HPE.out]; exact hown5), Lib.hid (HB3.out.trans hb5)⟩, by simp only [intOf]; omega⟩
                                  | false =>
                                    rw [hd, hf] at HPK
                                    rw [hf] at HFY
                                    clear hd hf HFX
                                    go_wp2_with (go_at_call 16; refine HFY.out.mono ?_; rintro e w3 ⟨rfl, hb3⟩; have HO3 := Lib.hid (own_belowG HO.out hb3); have HB3 := Lib.hid (below_then HBQ'.out hb3))
                                    have HPE : Hid (pickG M (l2.take (j + 1)) = pickG M (l2.take j)) := Lib.hid (by rw [HPK.out]; simp)
                                    exact ⟨⟨j + 1, q, cO, AO, rfl, rfl, by omega, by omega, Lib.hid (by rw [HPE.out]; exact HQ.out), Lib.hid (by rw [HPE.out]; exact HO3.out), HB3⟩, by simp only [intOf]; omega⟩
                                · have hd : decide (x.length ≤ 2000) = false := decide_eq_false (by rw [← HSZ.out]; exact hlen)
                                  have hL : ¬ bx.size ≤ 2000 := hlen
                                  rw [hd] at HPK
                                  clear hd hlen HFX
                                  go_wp2_with fail
                                  have HPE : Hid (pickG M (l2.take (j + 1)) = pickG M (l2.take j)) := Lib.hid (by rw [HPK.out]; simp)
                                  exact ⟨⟨j + 1, q, cO, AO, rfl, rfl, by omega, by omega, Lib.hid (by rw [HPE.out]; exact HQ.out), Lib.hid (by rw [HPE.out]; exact HO.out), HBQ'⟩, by simp only [intOf]; omega⟩
                              · have hjn : j = n2 := by omega
                                subst hjn
                                have HT : Hid (l2.take j = l2) := Lib.hid (List.take_of_length_le (by rw [HN2.out]; exact Nat.le_refl _))
                                have HQ2 : Hid ((pickG M l2).length = q) := Lib.hid (by rw [← HT.out]; exact HQ.out)
                                have hqn : q = nb := by rw [← HQ2.out, HNB.out]
                                subst hqn
                                have HR1 := Lib.hid (HRBe.out.below HBQ'.out)
                                have HR2 : Hid (Rd wr AO ((pickG M l2).map sv)) := Lib.hid (by have h := HO.out; rw [HT.out] at h; exact Rd.of_own h)
                                have HEQ := Lib.hid (slSelf_any (c1 := cb) (c2 := cO) (pickG M l2) _ HR1.out HR2.out HQ2.out (by omega))
                                go_wp2_with (go_at_call 17; refine HEQ.out.mono ?_; rintro e w9' ⟨rfl, hb9⟩)
                                go_ret
                                exact ⟨rfl, below_then (below_then HBE.out HBQ'.out) hb9⟩
                · have h6i : BN.size ≤ 60 := by omega
                  have HL2 : Hid ((quoteG (s1.take (i + 1))).length ≤ 60) := Lib.hid (by rw [← HBNL.out]; exact h6i)
                  clear h6
                  go_wp2_with fail
                  exact ⟨⟨i + 1, congrArg Value.string HBNE.out.symm, rfl, by omega, HL2, HBN⟩, by simp only [intOf]; omega⟩
            · exact absurd (show 60 < (quoteG (s1.take i)).length by rw [List.take_of_length_le (by rw [← HS1.out.size]; omega)]; exact H60.out) (by have := HL.out; omega)
        · obtain rfl : qe = 0 := by rw [← HQE.out]; unfold quoE; rw [if_neg h60]
          have HQG : Hid ((⟨(quoteG s1).toArray⟩ : ByteArray) = bq) := Lib.hid (by rw [← HBQ.out]; unfold quoS; rw [if_neg h60])
          have H60 := Lib.hid h60
          clear h60
          go_wp2_with fail
          go_loopw [16, 60] (fun x y wr => ∃ i : Nat, x = .string ⟨(quoteG (s1.take i)).toArray⟩ ∧ y = .int .i64 (i : Int) ∧ i ≤ b1.size ∧ Hid ((quoteG (s1.take i)).length ≤ 60) ∧ Hid (Below w5.heap.size w5 wr)) (fun _ y _ => b1.size - (intOf y).toNat)
          case atStart => exact ⟨0, rfl, rfl, by omega, Lib.hid (by simp [quoteG]), Lib.hid (Below.refl _ _)⟩
          case round =>
            obtain ⟨i, rfl, rfl, hi, HL, HBW⟩ := hrel
            by_cases hlt : i < b1.size
            · obtain ⟨c, hc⟩ : ∃ c, s1[i]? = some c := ⟨_, HS1.out.at_ hlt⟩
              have hsg : b1.extract i (i + 1) = ⟨#[c]⟩ := by rw [ext_seg HS1.out, seg_one hc]
              have HQS := Lib.hid (quote_step hc)
              have HQL := Lib.hid (quote_le s1 (i + 1))
              have i0 : (i : Int) < (b1.size : Int) := by omega
              have i1 : (i : Int) + 1 ≤ (b1.size : Int) := by omega
              have i2 : 0 ≤ (i : Int) + 1 := by omega
              have HPC := Lib.hid (place_any [[42], [63], [91], [93], [92]] [c] (wr.alloc (.cells #[.string ⟨#[42]⟩, .string ⟨#[63]⟩, .string ⟨#[91]⟩, .string ⟨#[93]⟩, .string ⟨#[92]⟩] 9)) (A := some ⟨wr.heap.size, 0, none⟩) (n := 5) (c := 5) (rd_lit wr wr.heap.size _ _ _ rfl rfl) rfl (by decide))
              have HBN := Lib.hid (below_then HBW.out (below_new (Below.refl wr.heap.size wr) (.cells #[.string ⟨#[42]⟩, .string ⟨#[63]⟩, .string ⟨#[91]⟩, .string ⟨#[93]⟩, .string ⟨#[92]⟩] 9)))
              clear hc
              go_wp2_with fail
              refine HPC.out.mono ?_
              rintro e w6 ⟨ix, rfl, rfl, hor⟩
              generalize wr.alloc (.cells #[.string ⟨#[42]⟩, .string ⟨#[63]⟩, .string ⟨#[91]⟩, .string ⟨#[93]⟩, .string ⟨#[92]⟩] 9) = wn at *
              generalize hBT : (⟨(quoteG (s1.take i)).toArray⟩ : ByteArray) = BT at *
              obtain ⟨BN, hBN⟩ : ∃ v, (⟨(quoteG (s1.take (i + 1))).toArray⟩ : ByteArray) = v := ⟨_, rfl⟩
              have HBNL : Hid (BN.size = (quoteG (s1.take (i + 1))).length) := Lib.hid (by rw [← hBN]; rfl)
              have HBNE := Lib.hid hBN
              have hBTs : BT.size ≤ 60 := by rw [← hBT]; exact HL.out
              rcases hor with ⟨rfl, hno⟩ | ⟨kx, rfl, hyes⟩
              · have hq : quoG c = false := by
                  rw [Bool.eq_false_iff]
                  exact fun h => hno ((place_quo c).2 h)
                have hcat : BT ++ ⟨#[c]⟩ = BN := by
                  rw [← hBT, ← hBN, HQS.out, hq]
                  exact cat_bytes _ [c]
                clear hno hq hBT hBN
                by_cases h6 : 60 < BN.size
                · exact absurd h6 (by rw [HBNL.out]; have := HQL.out; have := H60.out; omega)
                · have h6i : BN.size ≤ 60 := by omega
                  have HL2 : Hid ((quoteG (s1.take (i + 1))).length ≤ 60) := Lib.hid (by rw [← HBNL.out]; exact h6i)
                  clear h6
                  go_wp2_with fail
                  exact ⟨⟨i + 1, congrArg Value.string HBNE.out.symm, rfl, by omega, HL2, HBN⟩, by simp only [intOf]; omega⟩
              · have hq : quoG c = true := (place_quo c).1 (List.mem_of_getElem? hyes)
                have hcat : BT ++ ⟨#[92]⟩ ++ ⟨#[c]⟩ = BN := by
                  rw [← hBT, ← hBN, HQS.out, hq]
                  rw [show (⟨#[92]⟩ : ByteArray) = ⟨[92].toArray⟩ from rfl, cat_bytes]
                  exact (cat_bytes _ [c]).trans (by simp)
                have hk0 : 0 ≤ (kx : Int) := by omega
                clear hyes hq hBT hBN
                by_cases h6 : 60 < BN.size
                · exact absurd h6 (by rw [HBNL.out]; have := HQL.out; have := H60.out; omega)
                · have h6i : BN.size ≤ 60 := by omega
                  have HL2 : Hid ((quoteG (s1.take (i + 1))).length ≤ 60) := Lib.hid (by rw [← HBNL.out]; exact h6i)
                  clear h6
                  go_wp2_with fail
                  exact ⟨⟨i + 1, congrArg Value.string HBNE.out.symm, rfl, by omega, HL2, HBN⟩, by simp only [intOf]; omega⟩
            · have hib : i = b1.size := by omega
              subst hib
              have HXE : Hid ((⟨(quoteG (s1.take b1.size)).toArray⟩ : ByteArray) = bq) := Lib.hid (by rw [List.take_of_length_le (by rw [← HS1.out.size]; exact Nat.le_refl _)]; exact HQG.out)
              have hq6 : bq.size ≤ 60 := by
                rw [← HXE.out]
                exact HL.out
              go_upto_region 17 with fail
              rw [HXE.out]
              have HBX := HBW
              have HBF := Lib.hid (below_then HB5.out HBX.out)
              go_wp2_with fail
              refine (HF0.out _).mono ?_
              rintro e w8 ⟨rfl, hb8⟩
              have HX8 := Lib.hid (below_then HBX.out hb8)
              clear hb8 HBX
              go_wp2_with fail
              refine (HX0.out _).mono ?_
              rintro e w9 ⟨rfl, hb9⟩
              have HX9 := Lib.hid (below_then HX8.out hb9)
              clear hb9 HX8
              go_wp2_with fail
              refine (HR0.out HS60.out _).mono ?_
              rintro e w10 ⟨hb10, hc10⟩
              have HX10 := Lib.hid (below_then HX9.out hb10)
              clear hb10 HX9
              rcases hc10 with ⟨hnn, _⟩ | ⟨M', A3, n3, c3, hm, hl3, hn3, ho3, rfl⟩
              · rw [HP1.out] at hnn; cases hnn
              · obtain rfl : M = M' := by rw [HP1.out] at hm; injection hm
                have HRP := Lib.hid (rd_of_ownG ho3)
                have HL3 := Lib.hid hl3
                clear hm ho3 hl3
                by_cases hbig : 2000 < b1.size
                · obtain rfl : va = false := by rw [← HVA.out, HVM.out, if_pos (by rw [← HS1.out.size]; exact hbig)]
                  obtain rfl : ve = 2 := by rw [← HVE.out, HVR.out, if_pos (by rw [← HS1.out.size]; exact hbig)]
                  have HXB := HX10
                  have HRP2 := HRP
                  go_upto_region 27 with fail
                  clear hbig
                  generalize w10 = wb at *
                  have HBB := Lib.hid (below_then HB5.out HXB.out)
                  have HRLb := Lib.hid (HRL5.out.below HXB.out)
                  have HRBb := Lib.hid (HRB5.out.below HXB.out)
                  clear HXB HRL5 HRB5
                  go_wp2_with fail
                  go_loopw [21, 22, 175] (fun x y z wr => ∃ k : Nat, x = .string ⟨((stP (M.take k)).1).toArray⟩ ∧ y = .bool (stP (M.take k)).2 ∧ z = .int .i64 (k : Int) ∧ k ≤ n3 ∧ Hid (Below wb.heap.size wb wr)) (fun _ _ z _ => n3 - (intOf z).toNat)
                  case atStart => exact ⟨0, rfl, rfl, rfl, by omega, Lib.hid (Below.refl _ _)⟩
                  case round =>
                    obtain ⟨k, rfl, rfl, rfl, hk, HBW⟩ := hrel
                    by_cases hlt : k < n3
                    · obtain ⟨pg, hpg⟩ : ∃ pg, M[k]? = some pg := ⟨_, List.getElem?_eq_getElem (by rw [HL3.out]; exact hlt)⟩
                      obtain ⟨bA, off, rfl, hbl, hrg⟩ := Rd.rpiece HRP2.out hpg
                      have HRG := Lib.hid (range_below hrg HBW.out hbl)
                      have HST := Lib.hid (st_step hpg)
                      have hpl := st_len k (M.take k) (by rw [List.length_take, HL3.out]; omega)
                      have hself := HSF.out pg (List.mem_of_getElem? hpg)
                      have k0 : (k : Int) < (n3 : Int) := by omega
                      clear hpg hbl hrg
                      go_upto_region 31 with (first | (refine wpList_loadR _ rfl _ rfl bA (off + k * 258) pg.p.any pg.p.set pg.self rfl HRG.out ?_) | (refine wpList_allocR _ rfl rfl ?_) | (refine wpList_storeR _ rfl _ _ rfl wr.heap.size false pg.p.any noS pg.p.set 0 pg.self rfl rfl (Blk.new _ _ _) ?_; intro wc hkc hbc))
                      have HKC := Lib.hid hkc
                      have HBC := Lib.hid (below_then HBW.out ((below_new (Below.refl wr.heap.size wr) _).trans (hbc wr.heap.size (Nat.le_refl _))))
                      clear hkc hbc HRG
                      have cs := HKC.out.cell (rpL_self pg.p.any pg.p.set pg.self)
                      generalize hvo : (stP (M.take k)).2 = vo at *
                      generalize hvt : (stP (M.take k)).1 = vt at *
                      clear hvo hvt
                      cases vo with
                      | false =>
                        have HE1 : Hid (stP (M.take (k + 1)) = (vt, false)) := Lib.hid (by rw [HST.out]; rfl)
                        go_wp2_with fail
                        exact ⟨⟨k + 1, by rw [HE1.out], by rw [HE1.out], rfl, by omega, HBC⟩, by simp only [intOf]; omega⟩
                      | true =>
                        rcases hself with hse | ⟨d, hse⟩
                        · rw [hse] at cs HST
                          have HE1 : Hid (stP (M.take (k + 1)) = (vt, false)) := Lib.hid (by rw [HST.out]; rfl)
                          clear hse
                          go_wp2_with fail
                          exact ⟨⟨k + 1, by rw [HE1.out], by rw [HE1.out], rfl, by omega, HBC⟩, by simp only [intOf]; omega⟩
                        · rw [hse] at cs HST
                          have hd0 : 0 ≤ ((d.toNat : Nat) : Int) := by omega
                          have HE1 : Hid (stP (M.take (k + 1)) = (vt ++ [d], true)) := Lib.hid (by
                            rw [HST.out, Bool.true_and, if_pos (decide_eq_true hd0)]
                            simp)
                          have hw8 := wrap_u8 d
                          have hcv := conv_one wc d
                          have hcat : (⟨vt.toArray⟩ : ByteArray) ++ ⟨#[d]⟩ = ⟨(vt ++ [d]).toArray⟩ := cat_bytes vt [d]
                          have HBD := Lib.hid (below_then HBC.out (below_new (Below.refl wc.heap.size wc) (.cells #[.int .u8 ((d.toNat : Nat) : Int)] 5)))
                          clear hse
                          go_wp2_with fail
                          exact ⟨⟨k + 1, by rw [HE1.out], by rw [HE1.out], rfl, by omega, HBD⟩, by simp only [intOf]; omega⟩
                    · obtain rfl : k = n3 := by omega
                      have HTM : Hid (M.take k = M) := Lib.hid (List.take_of_length_le (by rw [HL3.out]; exact Nat.le_refl _))
                      have HBE := Lib.hid (below_then HBB.out HBW.out)
                      have HRLe := Lib.hid (HRLb.out.below HBW.out)
                      have HRBe := Lib.hid (HRBb.out.below HBW.out)
                      have HRPe := Lib.hid (HRP2.out.below HBW.out)
                      cases hv : (stP M).2 with
                      | true =>
                        obtain rfl : okt = true := by rw [← HOK.out, HPN.out, if_pos hv]; rfl
                        have hbt2 : (⟨((stP M).1).toArray⟩ : ByteArray) = bt := by rw [← HBT.out, HPN.out, if_pos hv]; rfl
                        rw [HTM.out, hv, hbt2]
                        clear hv hbt2
                        go_upto_region 37 with fail
                        generalize hwz : wr = wz at *
                        clear hwz
                        go_wp2_with fail
                        go_loopw [25, 217] (fun x y wq => ∃ (j q cO : Nat) (AO : Option Addr), x = .slice AO q cO ∧ y = .int .i64 (j : Int) ∧ j ≤ n2 ∧ q ≤ j ∧ Hid ((pickG M (l2.take j)).length = q) ∧ Hid (wq.ownsRow wz.heap.size 9 1 (.slice AO q cO) q ((pickG M (l2.take j)).map sv)) ∧ Hid (Below wz.heap.size wz wq)) (fun _ y _ => n2 - (intOf y).toNat)
                        case atStart => exact ⟨0, 0, 0, none, rfl, rfl, by omega, by omega, Lib.hid rfl, Lib.hid (World.ownsRow_nil _ _ _ _), Lib.hid (Below.refl _ _)⟩
                        case round =>
                          obtain ⟨j, q, cO, AO, rfl, rfl, hj, hqj, HQ, HO, HBQ'⟩ := hrel
                          by_cases hjl : j < n2
                          · obtain ⟨x, hx⟩ : ∃ x, l2[j]? = some x := ⟨_, List.getElem?_eq_getElem (by rw [HN2.out]; exact hjl)⟩
                            obtain ⟨bL, oL, rfl, hcx⟩ := (HRLe.out.below HBQ'.out).scell hx
                            have HPK := Lib.hid (pick_snoc M l2 hx)
                            have HFX := Lib.hid (fun (h : x.length ≤ 2000) W (hb : Below wz.heap.size wz W) => rFits_any A3 k c3 M x W HL3.out hn3 (HRPe.out.below hb) h)
                            clear hx
                            have hsz : (⟨x.toArray⟩ : ByteArray).size = x.length := rfl
                            have HSXX := Lib.hid (show Value.string ⟨x.toArray⟩ = sv x from rfl)
                            generalize (⟨x.toArray⟩ : ByteArray) = bx at *
                            have HSZ := Lib.hid hsz
                            clear hsz
                            by_cases hlen : bx.size ≤ 2000
                            · have hd : decide (x.length ≤ 2000) = true := decide_eq_true (by rw [← HSZ.out]; exact hlen)
                              have HFY := Lib.hid (HFX.out (by rw [← HSZ.out]; exact hlen) _ HBQ'.out)
                              cases hf : fitG M x with
                              | true =>
                                rw [hd, hf] at HPK
                                rw [hf] at HFY
                                clear hd hf HFX
                                have hqn : (q + 1) * 16 ≤ 140737488355328 := by have := HLB.out; omega
                                go_wp2_with (first | (go_at_call 16; refine HFY.out.mono ?_; rintro e w3 ⟨rfl, hb3⟩; have HO3 := Lib.hid (own_belowG HO.out hb3); have HB3 := Lib.hid (below_then HBQ'.out hb3); have hz3 := HB3.out.size) | (at_builtin; refine wpList_push elStr w3 _ _ wz.heap.size AO q cO _ (.string bx) HO3.out rfl hz3 hqn (by omega) rfl rfl rfl rfl ?_; intro A' c' w5' hown5 hb5))
                                have HPE : Hid ((pickG M (l2.take (j + 1))).map sv = (pickG M (l2.take j)).map sv ++ [.string bx]) := Lib.hid (by rw [HPK.out, HSXX.out]; simp)
                                have HPQ : Hid ((pickG M (l2.take (j + 1))).length = q + 1) := Lib.hid (by rw [HPK.out]; simp [HQ.out])
                                exact ⟨⟨j + 1, q + 1, c', A', rfl, rfl, by omega, by omega, HPQ, Lib.hid (by rw [HPE.out]; exact hown5), Lib.hid (HB3.out.trans hb5)⟩, by simp only [intOf]; omega⟩
                              | false =>
                                rw [hd, hf] at HPK
                                rw [hf] at HFY
                                clear hd hf HFX
                                go_wp2_with (go_at_call 16; refine HFY.out.mono ?_; rintro e w3 ⟨rfl, hb3⟩; have HO3 := Lib.hid (own_belowG HO.out hb3); have HB3 := Lib.hid (below_then HBQ'.out hb3))
                                have HPE : Hid (pickG M (l2.take (j + 1)) = pickG M (l2.take j)) := Lib.hid (by rw [HPK.out]; simp)
                                exact ⟨⟨j + 1, q, cO, AO, rfl, rfl, by omega, by omega, Lib.hid (by rw [HPE.out]; exact HQ.out), Lib.hid (by rw [HPE.out]; exact HO3.out), HB3⟩, by simp only [intOf]; omega⟩
                            · have hd : decide (x.length ≤ 2000) = false := decide_eq_false (by rw [← HSZ.out]; exact hlen)
                              have hL : ¬ bx.size ≤ 2000 := hlen
                              rw [hd] at HPK
                              clear hd hlen HFX
                              go_wp2_with fail
                              have HPE : Hid (pickG M (l2.take (j + 1)) = pickG M (l2.take j)) := Lib.hid (by rw [HPK.out]; simp)
                              exact ⟨⟨j + 1, q, cO, AO, rfl, rfl, by omega, by omega, Lib.hid (by rw [HPE.out]; exact HQ.out), Lib.hid (by rw [HPE.out]; exact HO.out), HBQ'⟩, by simp only [intOf]; omega⟩
                          · have hjn : j = n2 := by omega
                            subst hjn
                            have HT : Hid (l2.take j = l2) := Lib.hid (List.take_of_length_le (by rw [HN2.out]; exact Nat.le_refl _))
                            have HQ2 : Hid ((pickG M l2).length = q) := Lib.hid (by rw [← HT.out]; exact HQ.out)
                            have hqn : q = nb := by rw [← HQ2.out, HNB.out]
                            subst hqn
                            have HR1 := Lib.hid (HRBe.out.below HBQ'.out)
                            have HR2 : Hid (Rd wr AO ((pickG M l2).map sv)) := Lib.hid (by have h := HO.out; rw [HT.out] at h; exact Rd.of_own h)
                            have HEQ := Lib.hid (slSelf_any (c1 := cb) (c2 := cO) (pickG M l2) _ HR1.out HR2.out HQ2.out (by omega))
                            go_wp2_with (go_at_call 17; refine HEQ.out.mono ?_; rintro e w9' ⟨rfl, hb9⟩)
                            go_ret
                            exact ⟨rfl, below_then (below_then HBE.out HBQ'.out) hb9⟩
                      | false =>
                        obtain rfl : okt = false := by rw [← HOK.out, HPN.out, if_neg (by rw [hv]; decide)]; rfl
                        obtain rfl : bt = ⟨#[]⟩ := by rw [← HBT.out, HPN.out, if_neg (by rw [hv]; decide)]; rfl
                        rw [HTM.out, hv]
                        generalize (⟨((stP M).1).toArray⟩ : ByteArray) = bp at *
                        clear hv
                        go_upto_region 37 with fail
                        generalize hwz : wr = wz at *
                        clear hwz
                        go_wp2_with fail
                        go_loopw [25, 217] (fun x y wq => ∃ (j q cO : Nat) (AO : Option Addr), x = .slice AO q cO ∧ y = .int .i64 (j : Int) ∧ j ≤ n2 ∧ q ≤ j ∧ Hid ((pickG M (l2.take j)).length = q) ∧ Hid (wq.ownsRow wz.heap.size 9 1 (.slice AO q cO) q ((pickG M (l2.take j)).map sv)) ∧ Hid (Below wz.heap.size wz wq)) (fun _ y _ => n2 - (intOf y).toNat)
                        case atStart => exact ⟨0, 0, 0, none, rfl, rfl, by omega, by omega, Lib.hid rfl, Lib.hid (World.ownsRow_nil _ _ _ _), Lib.hid (Below.refl _ _)⟩
                        case round =>
                          obtain ⟨j, q, cO, AO, rfl, rfl, hj, hqj, HQ, HO, HBQ'⟩ := hrel
                          by_cases hjl : j < n2
                          · obtain ⟨x, hx⟩ : ∃ x, l2[j]? = some x := ⟨_, List.getElem?_eq_getElem (by rw [HN2.out]; exact hjl)⟩
                            obtain ⟨bL, oL, rfl, hcx⟩ := (HRLe.out.below HBQ'.out).scell hx
                            have HPK := Lib.hid (pick_snoc M l2 hx)
                            have HFX := Lib.hid (fun (h : x.length ≤ 2000) W (hb : Below wz.heap.size wz W) => rFits_any A3 k c3 M x W HL3.out hn3 (HRPe.out.below hb) h)
                            clear hx
                            have hsz : (⟨x.toArray⟩ : ByteArray).size = x.length := rfl
                            have HSXX := Lib.hid (show Value.string ⟨x.toArray⟩ = sv x from rfl)
                            generalize (⟨x.toArray⟩ : ByteArray) = bx at *
                            have HSZ := Lib.hid hsz
                            clear hsz
                            by_cases hlen : bx.size ≤ 2000
                            · have hd : decide (x.length ≤ 2000) = true := decide_eq_true (by rw [← HSZ.out]; exact hlen)
                              have HFY := Lib.hid (HFX.out (by rw [← HSZ.out]; exact hlen) _ HBQ'.out)
                              cases hf : fitG M x with
                              | true =>
                                rw [hd, hf] at HPK
                                rw [hf] at HFY
                                clear hd hf HFX
                                have hqn : (q + 1) * 16 ≤ 140737488355328 := by have := HLB.out; omega
                                go_wp2_with (first | (go_at_call 16; refine HFY.out.mono ?_; rintro e w3 ⟨rfl, hb3⟩; have HO3 := Lib.hid (own_belowG HO.out hb3); have HB3 := Lib.hid (below_then HBQ'.out hb3); have hz3 := HB3.out.size) | (at_builtin; refine wpList_push elStr w3 _ _ wz.heap.size AO q cO _ (.string bx) HO3.out rfl hz3 hqn (by omega) rfl rfl rfl rfl ?_; intro A' c' w5' hown5 hb5))
                                have HPE : Hid ((pickG M (l2.take (j + 1))).map sv = (pickG M (l2.take j)).map sv ++ [.string bx]) := Lib.hid (by rw [HPK.out, HSXX.out]; simp)
                                have HPQ : Hid ((pickG M (l2.take (j + 1))).length = q + 1) := Lib.hid (by rw [HPK.out]; simp [HQ.out])
                                exact ⟨⟨j + 1, q + 1, c', A', rfl, rfl, by omega, by omega, HPQ, Lib.hid (by rw [HPE.out]; exact hown5), Lib.hid (HB3.out.trans hb5)⟩, by simp only [intOf]; omega⟩
                              | false =>
                                rw [hd, hf] at HPK
                                rw [hf] at HFY
                                clear hd hf HFX
                                go_wp2_with (go_at_call 16; refine HFY.out.mono ?_; rintro e w3 ⟨rfl, hb3⟩; have HO3 := Lib.hid (own_belowG HO.out hb3); have HB3 := Lib.hid (below_then HBQ'.out hb3))
                                have HPE : Hid (pickG M (l2.take (j + 1)) = pickG M (l2.take j)) := Lib.hid (by rw [HPK.out]; simp)
                                exact ⟨⟨j + 1, q, cO, AO, rfl, rfl, by omega, by omega, Lib.hid (by rw [HPE.out]; exact HQ.out), Lib.hid (by rw [HPE.out]; exact HO3.out), HB3⟩, by simp only [intOf]; omega⟩
                            · have hd : decide (x.length ≤ 2000) = false := decide_eq_false (by rw [← HSZ.out]; exact hlen)
                              have hL : ¬ bx.size ≤ 2000 := hlen
                              rw [hd] at HPK
                              clear hd hlen HFX
                              go_wp2_with fail
                              have HPE : Hid (pickG M (l2.take (j + 1)) = pickG M (l2.take j)) := Lib.hid (by rw [HPK.out]; simp)
                              exact ⟨⟨j + 1, q, cO, AO, rfl, rfl, by omega, by omega, Lib.hid (by rw [HPE.out]; exact HQ.out), Lib.hid (by rw [HPE.out]; exact HO.out), HBQ'⟩, by simp only [intOf]; omega⟩
                          · have hjn : j = n2 := by omega
                            subst hjn
                            have HT : Hid (l2.take j = l2) := Lib.hid (List.take_of_length_le (by rw [HN2.out]; exact Nat.le_refl _))
                            have HQ2 : Hid ((pickG M l2).length = q) := Lib.hid (by rw [← HT.out]; exact HQ.out)
                            have hqn : q = nb := by rw [← HQ2.out, HNB.out]
                            subst hqn
                            have HR1 := Lib.hid (HRBe.out.below HBQ'.out)
                            have HR2 : Hid (Rd wr AO ((pickG M l2).map sv)) := Lib.hid (by have h := HO.out; rw [HT.out] at h; exact Rd.of_own h)
                            have HEQ := Lib.hid (slSelf_any (c1 := cb) (c2 := cO) (pickG M l2) _ HR1.out HR2.out HQ2.out (by omega))
                            go_wp2_with (go_at_call 17; refine HEQ.out.mono ?_; rintro e w9' ⟨rfl, hb9⟩)
                            go_ret
                            exact ⟨rfl, below_then (below_then HBE.out HBQ'.out) hb9⟩
                · obtain rfl : ve = 0 := by rw [← HVE.out, HVR.out, if_neg (by rw [← HS1.out.size]; exact hbig)]
                  have hva : fitG M s1 = va := by rw [← HVA.out, HVM.out, if_neg (by rw [← HS1.out.size]; exact hbig)]
                  have hsm : b1.size ≤ 2000 := by omega
                  have HFT := Lib.hid (HT0.out A3 n3 c3 M w10 HL3.out hn3 HRP.out (by rw [← HS1.out.size]; exact hsm))
                  rw [hva] at HFT
                  clear hbig hva
                  go_wp2_with fail
                  refine HFT.out.mono ?_
                  rintro e wb ⟨rfl, hbb⟩
                  have HXB := Lib.hid (below_then HX10.out hbb)
                  have HRP2 := Lib.hid (HRP.out.below hbb)
                  clear hbb HFT
                  go_upto_region 27 with fail
                  have HBB := Lib.hid (below_then HB5.out HXB.out)
                  have HRLb := Lib.hid (HRL5.out.below HXB.out)
                  have HRBb := Lib.hid (HRB5.out.below HXB.out)
                  clear HXB HRL5 HRB5
                  go_wp2_with fail
                  go_loopw [21, 22, 175] (fun x y z wr => ∃ k : Nat, x = .string ⟨((stP (M.take k)).1).toArray⟩ ∧ y = .bool (stP (M.take k)).2 ∧ z = .int .i64 (k : Int) ∧ k ≤ n3 ∧ Hid (Below wb.heap.size wb wr)) (fun _ _ z _ => n3 - (intOf z).toNat)
                  case atStart => exact ⟨0, rfl, rfl, rfl, by omega, Lib.hid (Below.refl _ _)⟩
                  case round =>
                    obtain ⟨k, rfl, rfl, rfl, hk, HBW⟩ := hrel
                    by_cases hlt : k < n3
                    · obtain ⟨pg, hpg⟩ : ∃ pg, M[k]? = some pg := ⟨_, List.getElem?_eq_getElem (by rw [HL3.out]; exact hlt)⟩
                      obtain ⟨bA, off, rfl, hbl, hrg⟩ := Rd.rpiece HRP2.out hpg
                      have HRG := Lib.hid (range_below hrg HBW.out hbl)
                      have HST := Lib.hid (st_step hpg)
                      have hpl := st_len k (M.take k) (by rw [List.length_take, HL3.out]; omega)
                      have hself := HSF.out pg (List.mem_of_getElem? hpg)
                      have k0 : (k : Int) < (n3 : Int) := by omega
                      clear hpg hbl hrg
                      go_upto_region 31 with (first | (refine wpList_loadR _ rfl _ rfl bA (off + k * 258) pg.p.any pg.p.set pg.self rfl HRG.out ?_) | (refine wpList_allocR _ rfl rfl ?_) | (refine wpList_storeR _ rfl _ _ rfl wr.heap.size false pg.p.any noS pg.p.set 0 pg.self rfl rfl (Blk.new _ _ _) ?_; intro wc hkc hbc))
                      have HKC := Lib.hid hkc
                      have HBC := Lib.hid (below_then HBW.out ((below_new (Below.refl wr.heap.size wr) _).trans (hbc wr.heap.size (Nat.le_refl _))))
                      clear hkc hbc HRG
                      have cs := HKC.out.cell (rpL_self pg.p.any pg.p.set pg.self)
                      generalize hvo : (stP (M.take k)).2 = vo at *
                      generalize hvt : (stP (M.take k)).1 = vt at *
                      clear hvo hvt
                      cases vo with
                      | false =>
                        have HE1 : Hid (stP (M.take (k + 1)) = (vt, false)) := Lib.hid (by rw [HST.out]; rfl)
                        go_wp2_with fail
                        exact ⟨⟨k + 1, by rw [HE1.out], by rw [HE1.out], rfl, by omega, HBC⟩, by simp only [intOf]; omega⟩
                      | true =>
                        rcases hself with hse | ⟨d, hse⟩
                        · rw [hse] at cs HST
                          have HE1 : Hid (stP (M.take (k + 1)) = (vt, false)) := Lib.hid (by rw [HST.out]; rfl)
                          clear hse
                          go_wp2_with fail
                          exact ⟨⟨k + 1, by rw [HE1.out], by rw [HE1.out], rfl, by omega, HBC⟩, by simp only [intOf]; omega⟩
                        · rw [hse] at cs HST
                          have hd0 : 0 ≤ ((d.toNat : Nat) : Int) := by omega
                          have HE1 : Hid (stP (M.take (k + 1)) = (vt ++ [d], true)) := Lib.hid (by
                            rw [HST.out, Bool.true_and, if_pos (decide_eq_true hd0)]
                            simp)
                          have hw8 := wrap_u8 d
                          have hcv := conv_one wc d
                          have hcat : (⟨vt.toArray⟩ : ByteArray) ++ ⟨#[d]⟩ = ⟨(vt ++ [d]).toArray⟩ := cat_bytes vt [d]
                          have HBD := Lib.hid (below_then HBC.out (below_new (Below.refl wc.heap.size wc) (.cells #[.int .u8 ((d.toNat : Nat) : Int)] 5)))
                          clear hse
                          go_wp2_with fail
                          exact ⟨⟨k + 1, by rw [HE1.out], by rw [HE1.out], rfl, by omega, HBD⟩, by simp only [intOf]; omega⟩
                    · obtain rfl : k = n3 := by omega
                      have HTM : Hid (M.take k = M) := Lib.hid (List.take_of_length_le (by rw [HL3.out]; exact Nat.le_refl _))
                      have HBE := Lib.hid (below_then HBB.out HBW.out)
                      have HRLe := Lib.hid (HRLb.out.below HBW.out)
                      have HRBe := Lib.hid (HRBb.out.below HBW.out)
                      have HRPe := Lib.hid (HRP2.out.below HBW.out)
                      cases hv : (stP M).2 with
                      | true =>
                        obtain rfl : okt = true := by rw [← HOK.out, HPN.out, if_pos hv]; rfl
                        have hbt2 : (⟨((stP M).1).toArray⟩ : ByteArray) = bt := by rw [← HBT.out, HPN.out, if_pos hv]; rfl
                        rw [HTM.out, hv, hbt2]
                        clear hv hbt2
                        go_upto_region 37 with fail
                        generalize hwz : wr = wz at *
                        clear hwz
                        go_wp2_with fail
                        go_loopw [25, 217] (fun x y wq => ∃ (j q cO : Nat) (AO : Option Addr), x = .slice AO q cO ∧ y = .int .i64 (j : Int) ∧ j ≤ n2 ∧ q ≤ j ∧ Hid ((pickG M (l2.take j)).length = q) ∧ Hid (wq.ownsRow wz.heap.size 9 1 (.slice AO q cO) q ((pickG M (l2.take j)).map sv)) ∧ Hid (Below wz.heap.size wz wq)) (fun _ y _ => n2 - (intOf y).toNat)
                        case atStart => exact ⟨0, 0, 0, none, rfl, rfl, by omega, by omega, Lib.hid rfl, Lib.hid (World.ownsRow_nil _ _ _ _), Lib.hid (Below.refl _ _)⟩
                        case round =>
                          obtain ⟨j, q, cO, AO, rfl, rfl, hj, hqj, HQ, HO, HBQ'⟩ := hrel
                          by_cases hjl : j < n2
                          · obtain ⟨x, hx⟩ : ∃ x, l2[j]? = some x := ⟨_, List.getElem?_eq_getElem (by rw [HN2.out]; exact hjl)⟩
                            obtain ⟨bL, oL, rfl, hcx⟩ := (HRLe.out.below HBQ'.out).scell hx
                            have HPK := Lib.hid (pick_snoc M l2 hx)
                            have HFX := Lib.hid (fun (h : x.length ≤ 2000) W (hb : Below wz.heap.size wz W) => rFits_any A3 k c3 M x W HL3.out hn3 (HRPe.out.below hb) h)
                            clear hx
                            have hsz : (⟨x.toArray⟩ : ByteArray).size = x.length := rfl
                            have HSXX := Lib.hid (show Value.string ⟨x.toArray⟩ = sv x from rfl)
                            generalize (⟨x.toArray⟩ : ByteArray) = bx at *
                            have HSZ := Lib.hid hsz
                            clear hsz
                            by_cases hlen : bx.size ≤ 2000
                            · have hd : decide (x.length ≤ 2000) = true := decide_eq_true (by rw [← HSZ.out]; exact hlen)
                              have HFY := Lib.hid (HFX.out (by rw [← HSZ.out]; exact hlen) _ HBQ'.out)
                              cases hf : fitG M x with
                              | true =>
                                rw [hd, hf] at HPK
                                rw [hf] at HFY
                                clear hd hf HFX
                                have hqn : (q + 1) * 16 ≤ 140737488355328 := by have := HLB.out; omega
                                go_wp2_with (first | (go_at_call 16; refine HFY.out.mono ?_; rintro e w3 ⟨rfl, hb3⟩; have HO3 := Lib.hid (own_belowG HO.out hb3); have HB3 := Lib.hid (below_then HBQ'.out hb3); have hz3 := HB3.out.size) | (at_builtin; refine wpList_push elStr w3 _ _ wz.heap.size AO q cO _ (.string bx) HO3.out rfl hz3 hqn (by omega) rfl rfl rfl rfl ?_; intro A' c' w5' hown5 hb5))
                                have HPE : Hid ((pickG M (l2.take (j + 1))).map sv = (pickG M (l2.take j)).map sv ++ [.string bx]) := Lib.hid (by rw [HPK.out, HSXX.out]; simp)
                                have HPQ : Hid ((pickG M (l2.take (j + 1))).length = q + 1) := Lib.hid (by rw [HPK.out]; simp [HQ.out])
                                exact ⟨⟨j + 1, q + 1, c', A', rfl, rfl, by omega, by omega, HPQ, Lib.hid (by rw [HPE.out]; exact hown5), Lib.hid (HB3.out.trans hb5)⟩, by simp only [intOf]; omega⟩
                              | false =>
                                rw [hd, hf] at HPK
                                rw [hf] at HFY
                                clear hd hf HFX
                                go_wp2_with (go_at_call 16; refine HFY.out.mono ?_; rintro e w3 ⟨rfl, hb3⟩; have HO3 := Lib.hid (own_belowG HO.out hb3); have HB3 := Lib.hid (below_then HBQ'.out hb3))
                                have HPE : Hid (pickG M (l2.take (j + 1)) = pickG M (l2.take j)) := Lib.hid (by rw [HPK.out]; simp)
                                exact ⟨⟨j + 1, q, cO, AO, rfl, rfl, by omega, by omega, Lib.hid (by rw [HPE.out]; exact HQ.out), Lib.hid (by rw [HPE.out]; exact HO3.out), HB3⟩, by simp only [intOf]; omega⟩
                            · have hd : decide (x.length ≤ 2000) = false := decide_eq_false (by rw [← HSZ.out]; exact hlen)
                              have hL : ¬ bx.size ≤ 2000 := hlen
                              rw [hd] at HPK
                              clear hd hlen HFX
                              go_wp2_with fail
                              have HPE : Hid (pickG M (l2.take (j + 1)) = pickG M (l2.take j)) := Lib.hid (by rw [HPK.out]; simp)
                              exact ⟨⟨j + 1, q, cO, AO, rfl, rfl, by omega, by omega, Lib.hid (by rw [HPE.out]; exact HQ.out), Lib.hid (by rw [HPE.out]; exact HO.out), HBQ'⟩, by simp only [intOf]; omega⟩
                          · have hjn : j = n2 := by omega
                            subst hjn
                            have HT : Hid (l2.take j = l2) := Lib.hid (List.take_of_length_le (by rw [HN2.out]; exact Nat.le_refl _))
                            have HQ2 : Hid ((pickG M l2).length = q) := Lib.hid (by rw [← HT.out]; exact HQ.out)
                            have hqn : q = nb := by rw [← HQ2.out, HNB.out]
                            subst hqn
                            have HR1 := Lib.hid (HRBe.out.below HBQ'.out)
                            have HR2 : Hid (Rd wr AO ((pickG M l2).map sv)) := Lib.hid (by have h := HO.out; rw [HT.out] at h; exact Rd.of_own h)
                            have HEQ := Lib.hid (slSelf_any (c1 := cb) (c2 := cO) (pickG M l2) _ HR1.out HR2.out HQ2.out (by omega))
                            go_wp2_with (go_at_call 17; refine HEQ.out.mono ?_; rintro e w9' ⟨rfl, hb9⟩)
                            go_ret
                            exact ⟨rfl, below_then (below_then HBE.out HBQ'.out) hb9⟩
                      | false =>
                        obtain rfl : okt = false := by rw [← HOK.out, HPN.out, if_neg (by rw [hv]; decide)]; rfl
                        obtain rfl : bt = ⟨#[]⟩ := by rw [← HBT.out, HPN.out, if_neg (by rw [hv]; decide)]; rfl
                        rw [HTM.out, hv]
                        generalize (⟨((stP M).1).toArray⟩ : ByteArray) = bp at *
                        clear hv
                        go_upto_region 37 with fail
                        generalize hwz : wr = wz at *
                        clear hwz
                        go_wp2_with fail
                        go_loopw [25, 217] (fun x y wq => ∃ (j q cO : Nat) (AO : Option Addr), x = .slice AO q cO ∧ y = .int .i64 (j : Int) ∧ j ≤ n2 ∧ q ≤ j ∧ Hid ((pickG M (l2.take j)).length = q) ∧ Hid (wq.ownsRow wz.heap.size 9 1 (.slice AO q cO) q ((pickG M (l2.take j)).map sv)) ∧ Hid (Below wz.heap.size wz wq)) (fun _ y _ => n2 - (intOf y).toNat)
                        case atStart => exact ⟨0, 0, 0, none, rfl, rfl, by omega, by omega, Lib.hid rfl, Lib.hid (World.ownsRow_nil _ _ _ _), Lib.hid (Below.refl _ _)⟩
                        case round =>
                          obtain ⟨j, q, cO, AO, rfl, rfl, hj, hqj, HQ, HO, HBQ'⟩ := hrel
                          by_cases hjl : j < n2
                          · obtain ⟨x, hx⟩ : ∃ x, l2[j]? = some x := ⟨_, List.getElem?_eq_getElem (by rw [HN2.out]; exact hjl)⟩
                            obtain ⟨bL, oL, rfl, hcx⟩ := (HRLe.out.below HBQ'.out).scell hx
                            have HPK := Lib.hid (pick_snoc M l2 hx)
                            have HFX := Lib.hid (fun (h : x.length ≤ 2000) W (hb : Below wz.heap.size wz W) => rFits_any A3 k c3 M x W HL3.out hn3 (HRPe.out.below hb) h)
                            clear hx
                            have hsz : (⟨x.toArray⟩ : ByteArray).size = x.length := rfl
                            have HSXX := Lib.hid (show Value.string ⟨x.toArray⟩ = sv x from rfl)
                            generalize (⟨x.toArray⟩ : ByteArray) = bx at *
                            have HSZ := Lib.hid hsz
                            clear hsz
                            by_cases hlen : bx.size ≤ 2000
                            · have hd : decide (x.length ≤ 2000) = true := decide_eq_true (by rw [← HSZ.out]; exact hlen)
                              have HFY := Lib.hid (HFX.out (by rw [← HSZ.out]; exact hlen) _ HBQ'.out)
                              cases hf : fitG M x with
                              | true =>
                                rw [hd, hf] at HPK
                                rw [hf] at HFY
                                clear hd hf HFX
                                have hqn : (q + 1) * 16 ≤ 140737488355328 := by have := HLB.out; omega
                                go_wp2_with (first | (go_at_call 16; refine HFY.out.mono ?_; rintro e w3 ⟨rfl, hb3⟩; have HO3 := Lib.hid (own_belowG HO.out hb3); have HB3 := Lib.hid (below_then HBQ'.out hb3); have hz3 := HB3.out.size) | (at_builtin; refine wpList_push elStr w3 _ _ wz.heap.size AO q cO _ (.string bx) HO3.out rfl hz3 hqn (by omega) rfl rfl rfl rfl ?_; intro A' c' w5' hown5 hb5))
                                have HPE : Hid ((pickG M (l2.take (j + 1))).map sv = (pickG M (l2.take j)).map sv ++ [.string bx]) := Lib.hid (by rw [HPK.out, HSXX.out]; simp)
                                have HPQ : Hid ((pickG M (l2.take (j + 1))).length = q + 1) := Lib.hid (by rw [HPK.out]; simp [HQ.out])
                                exact ⟨⟨j + 1, q + 1, c', A', rfl, rfl, by omega, by omega, HPQ, Lib.hid (by rw [HPE.out]; exact hown5), Lib.hid (HB3.out.trans hb5)⟩, by simp only [intOf]; omega⟩
                              | false =>
                                rw [hd, hf] at HPK
                                rw [hf] at HFY
                                clear hd hf HFX
                                go_wp2_with (go_at_call 16; refine HFY.out.mono ?_; rintro e w3 ⟨rfl, hb3⟩; have HO3 := Lib.hid (own_belowG HO.out hb3); have HB3 := Lib.hid (below_then HBQ'.out hb3))
                                have HPE : Hid (pickG M (l2.take (j + 1)) = pickG M (l2.take j)) := Lib.hid (by rw [HPK.out]; simp)
                                exact ⟨⟨j + 1, q, cO, AO, rfl, rfl, by omega, by omega, Lib.hid (by rw [HPE.out]; exact HQ.out), Lib.hid (by rw [HPE.out]; exact HO3.out), HB3⟩, by simp only [intOf]; omega⟩
                            · have hd : decide (x.length ≤ 2000) = false := decide_eq_false (by rw [← HSZ.out]; exact hlen)
                              have hL : ¬ bx.size ≤ 2000 := hlen
                              rw [hd] at HPK
                              clear hd hlen HFX
                              go_wp2_with fail
                              have HPE : Hid (pickG M (l2.take (j + 1)) = pickG M (l2.take j)) := Lib.hid (by rw [HPK.out]; simp)
                              exact ⟨⟨j + 1, q, cO, AO, rfl, rfl, by omega, by omega, Lib.hid (by rw [HPE.out]; exact HQ.out), Lib.hid (by rw [HPE.out]; exact HO.out), HBQ'⟩, by simp only [intOf]; omega⟩
                          · have hjn : j = n2 := by omega
                            subst hjn
                            have HT : Hid (l2.take j = l2) := Lib.hid (List.take_of_length_le (by rw [HN2.out]; exact Nat.le_refl _))
                            have HQ2 : Hid ((pickG M l2).length = q) := Lib.hid (by rw [← HT.out]; exact HQ.out)
                            have hqn : q = nb := by rw [← HQ2.out, HNB.out]
                            subst hqn
                            have HR1 := Lib.hid (HRBe.out.below HBQ'.out)
                            have HR2 : Hid (Rd wr AO ((pickG M l2).map sv)) := Lib.hid (by have h := HO.out; rw [HT.out] at h; exact Rd.of_own h)
                            have HEQ := Lib.hid (slSelf_any (c1 := cb) (c2 := cO) (pickG M l2) _ HR1.out HR2.out HQ2.out (by omega))
                            go_wp2_with (go_at_call 17; refine HEQ.out.mono ?_; rintro e w9' ⟨rfl, hb9⟩)
                            go_ret
                            exact ⟨rfl, below_then (below_then HBE.out HBQ'.out) hb9⟩
end Go.Proofs.Ytjdfmmjadjggjaa
