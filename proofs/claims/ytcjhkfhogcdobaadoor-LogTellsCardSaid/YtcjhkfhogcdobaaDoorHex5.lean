/- Contract: ParseUint of strconv's inner package at base 16, for every text. Texts below 2^47. -/
import Derived.Test.YtcjhkfhogcdobaaDoorHex4
import Derived.Deep.Cut
import Derived.Laws.IdiomStrings
import Derived.Lib.Strings
namespace Go.Proofs.YtcjhkfhogcdobaaDoor
open Go.RowKit

theorem or32_fin : ∀ n : Fin 256, bits .or .u8 (n.val : Int) 32 = ((n.val ||| 32 : Nat) : Int) := by decide +kernel
theorem lower_any (n : Nat) (hn : n < 256) (w : World) : Calls Tryd.prog 84 #[.int .u8 (n : Int)] w fun e w' => e = .returned (.int .u8 ((n ||| 32 : Nat) : Int)) ∧ w = w' := by
  have h := or32_fin ⟨n, hn⟩
  simp only at h
  go_enter Tryd.func84, Tryd.ntmps84
  go_wp2_with fail
  go_ret
  exact ⟨rfl, rfl⟩
theorem hexAcc_lt : ∀ L : List UInt8, (∀ x ∈ L, lowHex x = true) → hexAcc L < 16 ^ L.length := by
  intro L
  have key : ∀ n, n ≤ L.length → (∀ x ∈ L, lowHex x = true) → hexAcc (L.take n) < 16 ^ n := by
    intro n
    induction n with
    | zero => intro _ _; simp [hexAcc]
    | succ n ih =>
      intro hn hL
      have h1 : L[n]? = some (L[n]'(by omega)) := List.getElem?_eq_getElem (by omega)
      have h2 : L.take (n + 1) = L.take n ++ [L[n]'(by omega)] := by rw [List.take_add_one, h1]; rfl
      have h3 := ih (by omega) hL
      have h4 : hexVal (L[n]'(by omega)) < 16 := by
        rcases low_cases (L[n]'(by omega)) with ⟨_, h, h5, h6⟩ | ⟨_, h, h5, h6⟩ | ⟨h, _⟩ | ⟨h, _⟩ | ⟨h, _⟩
        · omega
        · omega
        all_goals (rw [hL _ (List.getElem_mem _)] at h; cases h)
      rw [h2, hexAcc_snoc, Nat.pow_succ]
      omega
  intro hL
  have := key L.length (Nat.le_refl _) hL
  rwa [List.take_length] at this
theorem hexOk_all {s : List UInt8} (h : hexOk s = true) : s.length = 16 ∧ ∀ x ∈ s, lowHex x = true := by
  unfold hexOk at h
  rw [Bool.and_eq_true, decide_eq_true_eq, List.all_eq_true] at h
  exact h
theorem byte_fin : ∀ n : Fin 256, ((97 ≤ n.val ∧ n.val ≤ 102) → n.val ||| 32 = n.val) ∧ (n.val ||| 32) < 256 := by decide +kernel
/-- The ways of a byte. -/
theorem byte_ways (c : UInt8) : (48 ≤ c.toNat ∧ c.toNat ≤ 57 ∧ hexVal c = c.toNat - 48) ∨
    (¬ (48 ≤ c.toNat ∧ c.toNat ≤ 57) ∧ 97 ≤ (c.toNat ||| 32) ∧ (c.toNat ||| 32) ≤ 102 ∧ (lowHex c = true → hexVal c = (c.toNat ||| 32) - 87)) ∨
    (¬ (48 ≤ c.toNat ∧ c.toNat ≤ 57) ∧ 102 < (c.toNat ||| 32) ∧ (c.toNat ||| 32) ≤ 122 ∧ lowHex c = false) ∨
    (¬ (48 ≤ c.toNat ∧ c.toNat ≤ 57) ∧ ((c.toNat ||| 32) < 97 ∨ (122 < (c.toNat ||| 32) ∧ (c.toNat ||| 32) < 256)) ∧ lowHex c = false) := by
  obtain ⟨h1, h2⟩ := byte_fin ⟨c.toNat, c.toNat_lt⟩
  simp only at h1 h2
  have hl := low_cases c
  generalize c.toNat ||| 32 = y at *
  rcases hl with ⟨h, hv, a, b⟩ | ⟨h, hv, a, b⟩ | ⟨h, a⟩ | ⟨h, a, b⟩ | ⟨h, a⟩
  · exact .inl ⟨a, b, hv⟩
  · have := h1 ⟨a, b⟩
    exact .inr (.inl ⟨by omega, by omega, by omega, fun _ => by omega⟩)
  all_goals
    rcases (by omega : y < 97 ∨ (97 ≤ y ∧ y ≤ 102) ∨ (102 < y ∧ y ≤ 122) ∨ 122 < y) with h3 | h3 | h3 | h3
    · exact .inr (.inr (.inr ⟨by omega, .inl h3, h⟩))
    · exact .inr (.inl ⟨by omega, h3.1, h3.2, fun h' => by rw [h] at h'; cases h'⟩)
    · exact .inr (.inr (.inl ⟨by omega, h3.1, h3.2, h⟩))
    · exact .inr (.inr (.inr ⟨by omega, .inr ⟨h3, h2⟩, h⟩))
def PuPost (s : List UInt8) (w : World) (e : Ending) (w' : World) : Prop :=
  ∃ (n : Nat) (ev : Value), e = .returned (.tuple #[.int .u64 (n : Int), ev]) ∧ n < 18446744073709551616 ∧ Below w.heap.size w w' ∧ ((ev = Value.nilIface ∧ (hexOk s = true → n = hexAcc s)) ∨ (hexOk s = false ∧ ∃ k : Int, ev = .iface 98 (.int .i64 k) ∧ (k = 1 ∨ k = 2)))
set_option maxRecDepth 100000 in
set_option maxHeartbeats 4000000 in
theorem iParse16 (s : List UInt8) (w : World) (hl : s.length ≤ 140737488351232) :
    Calls Tryd.prog 66 #[.string ⟨s.toArray⟩, .int .i64 16, .int .i64 64] w (PuPost s w) := by
  obtain ⟨b, hb⟩ : ∃ b : ByteArray, b = ⟨s.toArray⟩ := ⟨_, rfl⟩
  rw [← hb]
  have hsz : b.size = s.length := by rw [hb]; simp [ByteArray.size]
  have HB := Lib.hid hb
  have HSZ := Lib.hid hsz
  have hbs : b.size ≤ 140737488351232 := by omega
  clear hb hsz hl
  go_enter Tryd.func66, Tryd.ntmps66
  have hemp : b.toList.isEmpty = s.isEmpty := by rw [HB.out, Lib.toList_data]
  by_cases h0 : b.size = 0
  · have hs0 : s = [] := List.eq_nil_of_length_eq_zero (by rw [← HSZ.out]; exact h0)
    have HK : Hid (hexOk s = false) := Lib.hid (by rw [hs0]; rfl)
    rw [hs0] at hemp
    have hemp2 : b.toList.isEmpty = true := hemp
    clear hemp hs0
    go_wp2_with fail
    go_ret2
    exact ⟨0, _, rfl, by omega, Below.refl _ _, .inr ⟨HK.out, _, rfl, by first | exact .inl rfl | exact .inr rfl⟩⟩
  · have hemp2 : b.toList.isEmpty = false := by
      rw [hemp]
      have := HSZ.out
      cases s with
      | nil => exact absurd this h0
      | cons x xs => rfl
    clear hemp
    have hcv : ∀ W : World, (convert 9 33 (.string b)).run Tryd.prog W = .ok (.slice (some ⟨W.heap.size, 0, none⟩) b.size (grownCap W b.size 0 5)) (W.drew.alloc (.cells (bytesRow b (grownCap W b.size 0 5)) 5 ((bytesRow b (grownCap W b.size 0 5)).size, (bytesRow b (grownCap W b.size 0 5)).size + 1))) := fun W => run_bytes_of_string W 9 33 5 b Tryd.underlying9 Tryd.underlying33 Tryd.underlying5
    have hcell : ∀ (cap j : Nat) (hj : j < b.size), ((w.alloc (.cells (bytesRow b cap) 5 ((bytesRow b cap).size, (bytesRow b cap).size + 1))).drew).cell? ⟨w.heap.size, j, none⟩ = some (.int .u8 (b[j].toNat : Int)) := fun cap j hj => by
      have h := bytesRow_at b cap j hj
      have e : ((w.alloc (.cells (bytesRow b cap) 5 ((bytesRow b cap).size, (bytesRow b cap).size + 1))).drew).cell? ⟨w.heap.size, j, none⟩ = (bytesRow b cap)[j]? := World.cell?_alloc_mark w (bytesRow b cap) 5 _ j
      rw [e, h]
      rfl
    generalize hcap : grownCap w b.size 0 5 = cap at *
    have hmv : IntKind.u64.wrap (IntKind.u64.wrap 18446744073709551616 - 1) = 18446744073709551615 := by decide
    have HC0 := hcell cap
    have B0 := Below.drew (below_new (Below.refl w.heap.size w) (.cells (bytesRow b cap) 5 ((bytesRow b cap).size, (bytesRow b cap).size + 1)))
    have HC1 := Lib.hid HC0
    have B1 := Lib.hid B0
    clear hcell HC0 B0
    go_wp2_with fail
    generalize (w.alloc (.cells (bytesRow b cap) 5 ((bytesRow b cap).size, (bytesRow b cap).size + 1))).drew = w1 at *
    clear hcv hcap hmv hemp2
    generalize hcut0 : (1152921504606846976 : Int) = CUT at *
    generalize hmax0 : (18446744073709551615 : Int) = MX at *
    have HCUT := Lib.hid hcut0
    have HMAX := Lib.hid hmax0
    clear hcut0 hmax0
    go_loop [12, 13, 15, 16, 17, 101] (fun us n _ _ _ i => ∃ (k U : Nat), k ≤ b.size ∧ i = .int .i64 (k : Int) ∧ n = .int .u64 (U : Int) ∧ U < 18446744073709551616 ∧ us = .bool false ∧ Hid ((∀ (j : Nat) (c : UInt8), j < k → s[j]? = some c → lowHex c = true) → k ≤ 16 → U = hexAcc (s.take k))) (fun _ _ _ _ _ i => b.size - (intOf i).toNat)
    case atStart => exact ⟨0, 0, by omega, rfl, rfl, by omega, rfl, Lib.hid (fun _ _ => rfl)⟩
    case round =>
      obtain ⟨k, U, hk, rfl, rfl, hU, rfl, hpre⟩ := hrel
      by_cases hlt : k < b.size
      · have hki : (k : Int) < (b.size : Int) := by omega
        have hcc := HC1.out k hlt
        have HX := Lib.hid (bytes_at s HB.out hlt)
        have HTK : Hid (s.take (k + 1) = s.take k ++ [b[k]]) := Lib.hid (by rw [List.take_add_one, HX.out]; rfl)
        have hc256 : b[k].toNat < 256 := b[k].toNat_lt
        have HLO := Lib.hid (fun W => lower_any b[k].toNat hc256 W)
        have HWAYS := Lib.hid (byte_ways b[k])
        generalize b[k] = c at *
        have HSN := Lib.hid (hexAcc_snoc (s.take k) c)
        rw [← HTK.out] at HSN
        have HBIG : Hid (hexOk s = true → U < 1152921504606846976) := Lib.hid (fun hok => by
          have h1 := hexOk_all hok
          have hk16 : k ≤ 15 := by have := HSZ.out; omega
          rw [hpre.out (fun j c' _ hj => h1.2 c' (List.mem_of_getElem? hj)) (by omega)]
          have := hexAcc_lt (s.take k) (fun x hx => h1.2 x (List.mem_of_mem_take hx))
          rw [List.length_take, Nat.min_eq_left (by omega)] at this
          exact Nat.lt_of_lt_of_le this (Nat.le_trans (Nat.pow_le_pow_right (by decide) hk16) (by decide)))
        have HBAD : Hid (lowHex c = false → hexOk s = false) := Lib.hid (fun h => by
          rw [Bool.eq_false_iff]
          intro hok
          rw [(hexOk_all hok).2 c (List.mem_of_getElem? HX.out)] at h
          cases h)
        have HNX : Hid (∀ v, (lowHex c = true → v = hexVal c) → (∀ (j : Nat) (c' : UInt8), j < k + 1 → s[j]? = some c' → lowHex c' = true) → k + 1 ≤ 16 → U * 16 + v = hexAcc (s.take (k + 1))) := Lib.hid (fun v hv hall hk16 => by
          rw [HSN.out, ← hpre.out (fun j c' hj hc => hall j c' (by omega) hc) (by omega), hv (hall k c (by omega) HX.out)])
        have HLC := Lib.hid (fun (h : lowHex c = true) => h)
        generalize c.toNat = q at *
        rcases HWAYS.out with ⟨a1, a2, hv⟩ | ⟨a0, a1, a2, hv⟩ | ⟨a0, a1, a2, hv⟩ | ⟨a0, a1, hv⟩
        · have HV := Lib.hid hv
          have hb95 : ((q : Int) == 95) = false := by simp; omega
          clear hv HWAYS
          by_cases hcut : 1152921504606846976 ≤ U
          · have HK : Hid (hexOk s = false) := Lib.hid (by
              rw [Bool.eq_false_iff]
              intro hok
              have := HBIG.out hok
              omega)
            have hcI : decide (CUT ≤ (U : Int)) = true := by rw [decide_eq_true_eq, ← HCUT.out]; omega
            have hUI : (U : Int) < 18446744073709551616 := by omega
            obtain ⟨V, hV⟩ : ∃ V : Int, V = (U : Int) := ⟨_, rfl⟩
            rw [← hV]
            rw [← hV] at hcI
            have HVV := Lib.hid hV
            have HUU := Lib.hid hU
            clear hV hU hUI hcut hpre HBIG HBAD HNX

            go_wp2_with fail
            go_ret2
            exact ⟨18446744073709551615, _, by rw [← HMAX.out] <;> rfl, by omega, B1.out, .inr ⟨HK.out, _, rfl, by first | exact .inl rfl | exact .inr rfl⟩⟩
          · have HN := Lib.hid (HNX.out (q - 48) (fun _ => HV.out.symm))
            have hcI : decide (CUT ≤ (U : Int)) = false := by rw [decide_eq_false_iff_not, ← HCUT.out]; omega
            have hUI : (U : Int) < 1152921504606846976 := by omega
            have HUN : Hid (∀ v, v < 16 → U * 16 + v < 18446744073709551616) := Lib.hid (fun v hv => by omega)
            have hmx : ∀ v : Int, 0 ≤ v → v < 16 → decide (MX < (U : Int) * 16 + v) = false := fun v h1 h2 => by rw [decide_eq_false_iff_not, ← HMAX.out]; omega
            obtain ⟨V, hV⟩ : ∃ V : Int, V = (U : Int) := ⟨_, rfl⟩
            have hw1 : IntKind.u64.wrap (V * 16) = V * 16 := by rw [IntKind.wrap_u64, hV]; omega
            have hw2 : IntKind.u64.wrap (V * 16 + ((q : Int) - 48)) = V * 16 + ((q : Int) - 48) := by rw [IntKind.wrap_u64, hV]; omega
            have ht1 : decide (V * 16 + ((q : Int) - 48) < V * 16) = false := by rw [decide_eq_false_iff_not]; omega
            have ht2 : decide (MX < V * 16 + ((q : Int) - 48)) = false := by rw [decide_eq_false_iff_not, ← HMAX.out, hV]; omega
            rw [← hV]
            rw [← hV] at hcI
            have HVV := Lib.hid hV
            have HUU := Lib.hid hU
            clear hV hU hUI hcut hpre HBIG HBAD HNX hmx

            go_wp2_with fail
            go_round
            case rel => exact ⟨k + 1, U * 16 + (q - 48), by omega, by go_num, by rw [HVV.out]; congr 1; omega, HUN.out _ (by omega), rfl, HN⟩
            case measure => simp [intOf]; omega
        · have HV := Lib.hid hv
          have h95 : q ≠ 95 := by rintro rfl; exact absurd a2 (by decide)
          have hb95 : ((q : Int) == 95) = false := by simp; omega
          clear hv HWAYS h95
          generalize q ||| 32 = y at *
          rcases (by omega : q < 48 ∨ (48 ≤ q ∧ 57 < q)) with hq | ⟨hq, hq'⟩
          all_goals
            clear a0
            by_cases hcut : 1152921504606846976 ≤ U
            · have HK : Hid (hexOk s = false) := Lib.hid (by
                rw [Bool.eq_false_iff]
                intro hok
                have := HBIG.out hok
                omega)
              have hcI : decide (CUT ≤ (U : Int)) = true := by rw [decide_eq_true_eq, ← HCUT.out]; omega
              have hUI : (U : Int) < 18446744073709551616 := by omega
              obtain ⟨V, hV⟩ : ∃ V : Int, V = (U : Int) := ⟨_, rfl⟩
              rw [← hV]
              rw [← hV] at hcI
              have HVV := Lib.hid hV
              have HUU := Lib.hid hU
              clear hV hU hUI hcut hpre HBIG HBAD HNX
              go_wp2_with fail
              refine (HLO.out _).mono ?_
              rintro e w' ⟨rfl, rfl⟩
              go_wp2_with fail
              refine (HLO.out _).mono ?_
              rintro e w' ⟨rfl, rfl⟩
              go_wp2_with fail
              refine (HLO.out _).mono ?_
              rintro e w' ⟨rfl, rfl⟩
              go_wp2_with fail
              go_ret2
              exact ⟨18446744073709551615, _, by rw [← HMAX.out] <;> rfl, by omega, B1.out, .inr ⟨HK.out, _, rfl, by first | exact .inl rfl | exact .inr rfl⟩⟩
            · have HN := Lib.hid (HNX.out (y - 87) (fun h => (HV.out h).symm))
              have hcI : decide (CUT ≤ (U : Int)) = false := by rw [decide_eq_false_iff_not, ← HCUT.out]; omega
              have hUI : (U : Int) < 1152921504606846976 := by omega
              have HUN : Hid (∀ v, v < 16 → U * 16 + v < 18446744073709551616) := Lib.hid (fun v hv => by omega)
              have hmx : ∀ v : Int, 0 ≤ v → v < 16 → decide (MX < (U : Int) * 16 + v) = false := fun v h1 h2 => by rw [decide_eq_false_iff_not, ← HMAX.out]; omega
              obtain ⟨V, hV⟩ : ∃ V : Int, V = (U : Int) := ⟨_, rfl⟩
              have hw1 : IntKind.u64.wrap (V * 16) = V * 16 := by rw [IntKind.wrap_u64, hV]; omega
              have hw2 : IntKind.u64.wrap (V * 16 + ((y : Int) - 97 + 10)) = V * 16 + ((y : Int) - 97 + 10) := by rw [IntKind.wrap_u64, hV]; omega
              have ht1 : decide (V * 16 + ((y : Int) - 97 + 10) < V * 16) = false := by rw [decide_eq_false_iff_not]; omega
              have ht2 : decide (MX < V * 16 + ((y : Int) - 97 + 10)) = false := by rw [decide_eq_false_iff_not, ← HMAX.out, hV]; omega
              rw [← hV]
              rw [← hV] at hcI
              have HVV := Lib.hid hV
              have HUU := Lib.hid hU
              clear hV hU hUI hcut hpre HBIG HBAD HNX hmx
              go_wp2_with fail
              refine (HLO.out _).mono ?_
              rintro e w' ⟨rfl, rfl⟩
              go_wp2_with fail
              refine (HLO.out _).mono ?_
              rintro e w' ⟨rfl, rfl⟩
              go_wp2_with fail
              refine (HLO.out _).mono ?_
              rintro e w' ⟨rfl, rfl⟩
              go_wp2_with fail
              go_round
              case rel => exact ⟨k + 1, U * 16 + (y - 87), by omega, by go_num, by rw [HVV.out]; congr 1; omega, HUN.out _ (by omega), rfl, HN⟩
              case measure => simp [intOf]; omega
        · have HK : Hid (hexOk s = false) := Lib.hid (HBAD.out hv)
          have h95 : q ≠ 95 := by rintro rfl; exact absurd a2 (by decide)
          have hb95 : ((q : Int) == 95) = false := by simp; omega
          clear hv HWAYS hpre HBIG HBAD HNX h95
          generalize q ||| 32 = y at *
          rcases (by omega : q < 48 ∨ (48 ≤ q ∧ 57 < q)) with hq | ⟨hq, hq'⟩
          all_goals
            clear a0
            go_wp2_with fail
            refine (HLO.out _).mono ?_
            rintro e w' ⟨rfl, rfl⟩
            go_wp2_with fail
            refine (HLO.out _).mono ?_
            rintro e w' ⟨rfl, rfl⟩
            go_wp2_with fail
            refine (HLO.out _).mono ?_
            rintro e w' ⟨rfl, rfl⟩
            go_wp2_with fail
            go_ret2
            exact ⟨0, _, rfl, by omega, B1.out, .inr ⟨HK.out, _, rfl, by first | exact .inl rfl | exact .inr rfl⟩⟩
        · have HK : Hid (hexOk s = false) := Lib.hid (HBAD.out hv)
          clear hv HWAYS hpre HBIG HBAD HNX
          by_cases h95 : q = 95
          · subst h95
            clear a0 a1
            go_wp2_with fail
            refine (HLO.out _).mono ?_
            rintro e w' ⟨rfl, rfl⟩
            go_wp2_with fail
            refine (HLO.out _).mono ?_
            rintro e w' ⟨rfl, rfl⟩
            go_wp2_with fail
            go_ret2
            exact ⟨0, _, rfl, by omega, B1.out, .inr ⟨HK.out, _, rfl, by first | exact .inl rfl | exact .inr rfl⟩⟩
          have hb95 : ((q : Int) == 95) = false := by simp; omega
          clear h95
          generalize q ||| 32 = y at *
          rcases (by omega : q < 48 ∨ (48 ≤ q ∧ 57 < q)) with hq | ⟨hq, hq'⟩
          all_goals
            clear a0
            rcases a1 with a1 | ⟨a1, a2⟩
            · go_wp2_with fail
              refine (HLO.out _).mono ?_
              rintro e w' ⟨rfl, rfl⟩
              go_wp2_with fail
              go_ret2
              exact ⟨0, _, rfl, by omega, B1.out, .inr ⟨HK.out, _, rfl, by first | exact .inl rfl | exact .inr rfl⟩⟩
            · go_wp2_with fail
              refine (HLO.out _).mono ?_
              rintro e w' ⟨rfl, rfl⟩
              go_wp2_with fail
              refine (HLO.out _).mono ?_
              rintro e w' ⟨rfl, rfl⟩
              go_wp2_with fail
              go_ret2
              exact ⟨0, _, rfl, by omega, B1.out, .inr ⟨HK.out, _, rfl, by first | exact .inl rfl | exact .inr rfl⟩⟩
      · obtain rfl : k = b.size := by omega
        have HV : Hid (hexOk s = true → U = hexAcc s) := Lib.hid (fun hok => by
          have h1 := hexOk_all hok
          have := hpre.out (fun j c _ hj => h1.2 c (List.mem_of_getElem? hj)) (by have := HSZ.out; omega)
          rwa [List.take_of_length_le (by have := HSZ.out; omega)] at this)
        have hkk : ¬ (b.size : Int) < (b.size : Int) := by omega
        clear hpre
        go_wp2_with fail
        go_ret2
        exact ⟨U, _, rfl, hU, B1.out, .inl ⟨rfl, HV.out⟩⟩
end Go.Proofs.YtcjhkfhogcdobaaDoor
