/- Contracts: the reference's Fits, PatternFault, Place. -/
import Derived.Test.YtjdfmmjadjggjaaGlobT2
import Derived.Test.YtjdfmmjadjggjaaOwn2
import Derived.Test.YtjdfmmjadjggjaaGlob9
namespace Go.Proofs.Ytjdfmmjadjggjaa
open Go.RowKit

/-- A row of truth values. -/
def rowV (m : Nat) (f : Nat → Bool) : List Value := (List.range m).map fun i => Value.bool (f i)
theorem rowV_len (m : Nat) (f : Nat → Bool) : (rowV m f).length = m := by simp [rowV]
theorem rowV_at {m : Nat} (f : Nat → Bool) {i : Nat} (h : i < m) : (rowV m f)[i]? = some (.bool (f i)) := by
  unfold rowV
  rw [List.getElem?_map, List.getElem?_range h]
  rfl
theorem rowV_ext {m : Nat} {f g : Nat → Bool} (h : ∀ i, i < m → f i = g i) : rowV m f = rowV m g := by
  unfold rowV
  apply List.map_congr_left
  intro c hc
  rw [h c (by simpa using hc)]
theorem rowV_set {m : Nat} (f : Nat → Bool) {c : Nat} (hc : c < m) (v : Bool) : (rowV m f).set c (.bool v) = rowV m (putS f c v) := by
  unfold rowV
  apply List.ext_getElem?
  intro d
  by_cases hd : d = c
  · subst hd
    rw [List.getElem?_set_self (by simpa using hc), List.getElem?_map, List.getElem?_range hc]
    simp [putS]
  · rw [List.getElem?_set_ne (fun e => hd e.symm), List.getElem?_map, List.getElem?_map]
    by_cases h2 : d < m
    · rw [List.getElem?_range h2]
      simp [putS, hd]
    · rw [List.getElem?_eq_none (by simpa using h2)]
      rfl
theorem rowV_zero (m : Nat) : List.replicate m (Value.bool false) = rowV m (fun _ => false) := by
  apply List.ext_getElem?
  intro i
  by_cases h : i < m
  · rw [rowV_at _ h, List.getElem?_replicate, if_pos h]
  · rw [List.getElem?_eq_none (by simpa using h), List.getElem?_eq_none (by rw [rowV_len]; omega)]
theorem own_blk {w : World} {B g n : Nat} {e : TypeId} {xs : List Value} (h : w.ownsRow B e 1 (.slice (some ⟨g, 0, none⟩) n n) n xs) : Blk w g e xs := by
  rcases h.2 with ⟨h', _⟩ | ⟨g', cap, cur, h', _, hh, _, _, hs, ht⟩
  · cases h'
  · injection h' with h1 _ h3
    injection h1 with h1
    injection h1 with h1 _ _
    subst h1 h3
    unfold Blk
    rw [hh]
    have : cur.toList = xs := by
      rw [← ht, List.take_of_length_le (by simp; omega)]
    rw [← this]
theorem elBoolG : ElT Try.prog 87 4 (.bool false) 1 := ElT.mk' Try.underlying87 (by kernel_rfl) rfl
theorem rps_len (M : List GQ) : (rps M).length = M.length * 258 := by
  unfold rps
  induction M with
  | nil => rfl
  | cons g M ih =>
    rw [List.flatMap_cons, List.length_append, ih, rpL_len, List.length_cons]
    omega
theorem rps_at : ∀ {M : List GQ} {k : Nat} {g : GQ} {j : Nat} {v : Value}, M[k]? = some g → (rpL g.p.any g.p.set g.self)[j]? = some v → (rps M)[k * 258 + j]? = some v
  | [], k, g, j, v, h, _ => by simp at h
  | x :: M, 0, g, j, v, h, hv => by
    simp at h
    subst h
    unfold rps
    rw [List.flatMap_cons, Nat.zero_mul, Nat.zero_add, List.getElem?_append_left (List.getElem?_eq_some_iff.1 hv).1]
    exact hv
  | x :: M, k + 1, g, j, v, h, hv => by
    have ih := rps_at (M := M) (k := k) (j := j) (by simpa using h) hv
    unfold rps at *
    rw [List.flatMap_cons, List.getElem?_append_right (by rw [rpL_len]; omega), rpL_len, show (k + 1) * 258 + j - 258 = k * 258 + j by omega]
    exact ih
/-- A piece of the reference that is read. -/
theorem Rd.rpiece {w : World} {A : Option Addr} {M : List GQ} (h : Rd w A (rps M)) {k : Nat} {g : GQ} (hk : M[k]? = some g) :
    ∃ b off, A = some ⟨b, off, none⟩ ∧ b < w.heap.size ∧ w.rangeAt b (off + k * 258) (rpL g.p.any g.p.set g.self) := by
  have hl := (List.getElem?_eq_some_iff.1 hk).1
  obtain ⟨b, off, rfl, hb, hc⟩ := h (by rw [rps_len]; omega)
  refine ⟨b, off, rfl, hb, fun j v hv => ?_⟩
  rw [Nat.add_assoc]
  exact hc _ _ (rps_at hk hv)
theorem range_below {w w' : World} {b o : Nat} {cs : List Value} (h : w.rangeAt b o cs) (hb : Below w.heap.size w w') (hl : b < w.heap.size) : w'.rangeAt b o cs := fun j v hv => (hb.cell (p := ⟨b, o + j, none⟩) hl).trans (h j v hv)
/-- On its way: some place up to here. -/
def onF (l : List GP) (s : List Nat) (k : Nat) : Nat → Bool
  | 0 => false
  | i + 1 => rf l s (k + 1) i
theorem on_step {l : List GP} {s : List Nat} {k : Nat} (h : anyAt l k = true) (i : Nat) : (onF l s k i || rf l s k i) = rf l s (k + 1) i := by
  cases i with
  | zero => rw [rf_any0 h]; rfl
  | succ i => rw [rf_any h]; rfl
def nxA (l : List GP) (s : List Nat) (k i : Nat) : Nat → Bool := fun j => if j < i then rf l s (k + 1) j else false
theorem nxA_zero (l : List GP) (s : List Nat) (k : Nat) : nxA l s k 0 = fun _ => false := by funext j; simp [nxA]
theorem nxA_put (l : List GP) (s : List Nat) (k i j : Nat) : putS (nxA l s k i) i (rf l s (k + 1) i) j = nxA l s k (i + 1) j := by
  unfold putS nxA
  by_cases h : j = i
  · subst h; simp
  · rw [if_neg h]
    by_cases h2 : j < i
    · rw [if_pos h2, if_pos (by omega)]
    · rw [if_neg h2, if_neg (by omega)]
theorem nxA_end (l : List GP) (s : List Nat) (k : Nat) {m j : Nat} (h : j < m) : nxA l s k m j = rf l s (k + 1) j := by unfold nxA; rw [if_pos h]
def nxO (l : List GP) (s : List Nat) (k i : Nat) : Nat → Bool := fun j => if j ≤ i then rf l s (k + 1) j else false
theorem nxO_zero {l : List GP} {s : List Nat} {k : Nat} (h : anyAt l k = false) : nxO l s k 0 = fun _ => false := by
  funext j
  unfold nxO
  split
  · rename_i hj; obtain rfl : j = 0 := by omega
    exact rf_one0 h
  · rfl
theorem nxO_put {l : List GP} {s : List Nat} {k i : Nat} (h : rf l s (k + 1) (i + 1) = true) (j : Nat) : putS (nxO l s k i) (i + 1) true j = nxO l s k (i + 1) j := by
  unfold putS nxO
  by_cases hj : j = i + 1
  · subst hj; rw [if_pos rfl, if_pos (Nat.le_refl _), h]
  · rw [if_neg hj]
    by_cases h2 : j ≤ i
    · rw [if_pos h2, if_pos (by omega)]
    · rw [if_neg h2, if_neg (by omega)]
theorem nxO_stay {l : List GP} {s : List Nat} {k i : Nat} (h : rf l s (k + 1) (i + 1) = false) (j : Nat) : nxO l s k i j = nxO l s k (i + 1) j := by
  unfold nxO
  by_cases h2 : j ≤ i
  · rw [if_pos h2, if_pos (by omega)]
  · rw [if_neg h2]
    by_cases hj : j = i + 1
    · subst hj; rw [if_pos (Nat.le_refl _), h]
    · rw [if_neg (by omega)]
theorem nxO_last (l : List GP) (s : List Nat) (k : Nat) {m i j : Nat} (h : j < m + 1) (hi : m ≤ i) : nxO l s k i j = rf l s (k + 1) j := by unfold nxO; rw [if_pos (by omega)]
theorem rf0 (l : List GP) (s : List Nat) (i : Nat) : putS (fun _ => false) 0 true i = rf l s 0 i := by
  unfold putS
  rw [rf]
  by_cases h : i = 0
  · subst h; rfl
  · rw [if_neg h]; simp [h]
theorem anyAt_get {M : List GQ} {k : Nat} {g : GQ} (h : M[k]? = some g) : anyAt (M.map (·.p)) k = g.p.any := by unfold anyAt; rw [List.getElem?_map, h]; rfl
theorem setAt_get {M : List GQ} {k : Nat} {g : GQ} (h : M[k]? = some g) (c : Nat) : setAt (M.map (·.p)) k c = g.p.set c := by unfold setAt; rw [List.getElem?_map, h]; rfl
set_option maxRecDepth 100000 in
set_option maxHeartbeats 4000000 in
theorem rFits_any (A : Option Addr) (n c : Nat) (M : List GQ) (s : List UInt8) (w : World) (hM : M.length = n) (hn6 : n ≤ 60) (hr : Rd w A (rps M)) (hs : s.length ≤ 2000) :
    Calls Try.prog 16 #[.slice A n c, .string ⟨s.toArray⟩] w fun e w' => e = .returned (.bool (fitG M s)) ∧ Below w.heap.size w w' := by
  have HS := Lib.hid (strIs s)
  generalize (⟨s.toArray⟩ : ByteArray) = b at *
  have HSZ := Lib.hid HS.out.size
  have hbs : b.size ≤ 2000 := by rw [HSZ.out]; exact hs
  have HM := Lib.hid hM
  have HR := Lib.hid hr
  clear hs hM hr
  go_enter Try.func16, Try.ntmps16
  go_upto_region 2 with (at_make; refine wpList_new elBoolG rfl w _ w.heap.size (b.size + 1) .i64 (by omega) (by omega) (Nat.le_refl _) rfl rfl rfl ?_; intro w1 hown1 hb1 hlt1)
  have HKZ := Lib.hid (own_blk hown1)
  rw [rowV_zero] at HKZ
  have HB1 := Lib.hid hb1
  clear hown1 hb1 hlt1
  have c0 := HKZ.out.cell (rowV_at (fun _ => false) (show 0 < b.size + 1 by omega))
  have f0 := HKZ.out.free 0
  have HK1 := Lib.hid (HKZ.out.same 0 (.bool true))
  have HBA := Lib.hid (HB1.out.setCell (p := ⟨w.heap.size, 0, none⟩) (Nat.le_refl _) (.bool true))
  rw [rowV_set _ (show 0 < b.size + 1 by omega), rowV_ext (fun i _ => rf0 (M.map (·.p)) (natsG s) i)] at HK1
  have hz : (0 : Int) < (b.size : Int) + 1 := by omega
  go_upto_region 3 with fail
  generalize w1.setCell ⟨w.heap.size, 0, none⟩ (.bool true) = w2 at *
  clear c0 f0 hz HKZ HB1
  go_wp2_with fail
  go_loopw [5, 19] (fun x y wr => ∃ (g k : Nat), x = .slice (some ⟨g, 0, none⟩) (b.size + 1) (b.size + 1) ∧ y = .int .i64 (k : Int) ∧ k ≤ n ∧ Hid (Blk wr g 4 (rowV (b.size + 1) (rf (M.map (·.p)) (natsG s) k))) ∧ Hid (Below w.heap.size w wr)) (fun _ y _ => n - (intOf y).toNat)
  case atStart => exact ⟨w.heap.size, 0, rfl, rfl, by omega, HK1, HBA⟩
  case round =>
    clear HK1 HBA
    obtain ⟨ga, k, rfl, rfl, hk, HKA, HBW⟩ := hrel
    by_cases hlt : k < n
    · obtain ⟨pg, hpg⟩ : ∃ pg, M[k]? = some pg := ⟨_, List.getElem?_eq_getElem (by rw [HM.out]; exact hlt)⟩
      obtain ⟨bA, off, rfl, hbl, hrg⟩ := Rd.rpiece HR.out hpg
      have HRG := Lib.hid (range_below hrg HBW.out hbl)
      have HAN := Lib.hid (anyAt_get hpg)
      have HST := Lib.hid (fun c => setAt_get hpg c)
      clear hpg hbl hrg
      have k0 : (k : Int) < (n : Int) := by omega
      go_upto_region 6 with (first | (refine wpList_loadR _ rfl _ rfl bA (off + k * 258) pg.p.any pg.p.set pg.self rfl HRG.out ?_) | (refine wpList_allocR _ rfl rfl ?_) | (refine wpList_storeR _ rfl _ _ rfl wr.heap.size false pg.p.any noS pg.p.set 0 pg.self rfl rfl (Blk.new _ _ _) ?_; intro w3 hk3 hb3))
      have HKB := Lib.hid hk3
      have HB3 := Lib.hid ((below_new (Below.refl wr.heap.size wr) _).trans (hb3 wr.heap.size (Nat.le_refl _)))
      clear hk3 hb3
      go_upto_region 7 with (at_make; refine wpList_new elBoolG rfl w3 _ w3.heap.size (b.size + 1) .i64 (by omega) (by omega) (Nat.le_refl _) rfl rfl rfl ?_; intro w4 hown4 hb4 hlt4)
      have HKN := Lib.hid (own_blk hown4)
      rw [rowV_zero] at HKN
      have HKA4 := Lib.hid ((HKA.out.below HB3.out HKA.out.lt).below hb4 (Nat.lt_of_lt_of_le HKA.out.lt HB3.out.size))
      have HKB4 := Lib.hid (HKB.out.below hb4 HKB.out.lt)
      have HBW4 := Lib.hid (below_then HBW.out (below_then HB3.out hb4))
      have HGA := Lib.hid (show ga < w3.heap.size from Nat.lt_of_lt_of_le HKA.out.lt HB3.out.size)
      have HGB := Lib.hid HKB.out.lt
      have HW3 := Lib.hid (show w.heap.size ≤ w3.heap.size from Nat.le_trans HBW.out.size HB3.out.size)
      clear hown4 hb4 hlt4 HKA HRG HKB HBW HB3
      generalize wr.heap.size = bx at *
      generalize w3.heap.size = gn at *
      cases hany : pg.p.any with
      | true =>
        rw [hany] at HKB4 HAN
        clear hany
        go_wp2_with fail
        go_loopw [9, 29] (fun x y wr => ∃ (i : Nat), x = .bool (onF (M.map (·.p)) (natsG s) k i) ∧ y = .int .i64 (i : Int) ∧ i ≤ b.size + 1 ∧ Hid (Blk wr gn 4 (rowV (b.size + 1) (nxA (M.map (·.p)) (natsG s) k i))) ∧ Hid (Below gn w4 wr)) (fun _ y _ => b.size + 1 - (intOf y).toNat)
        case atStart => exact ⟨0, rfl, rfl, by omega, Lib.hid (by rw [nxA_zero]; exact HKN.out), Lib.hid (Below.refl _ _)⟩
        case round =>
          clear HKN
          obtain ⟨i, rfl, rfl, hi, HKN, HBN⟩ := hrel
          by_cases hil : i < b.size + 1
          · have ca := (HKA4.out.below HBN.out HGA.out).cell (rowV_at (rf (M.map (·.p)) (natsG s) k) hil)
            have cy := (HKB4.out.below HBN.out HGB.out).cell (rpL_any true pg.p.set pg.self)
            have cn := HKN.out.cell (rowV_at (nxA (M.map (·.p)) (natsG s) k i) hil)
            have fn := HKN.out.free i
            have HON := Lib.hid (on_step (s := natsG s) HAN.out i)
            have HKN2 := Lib.hid (HKN.out.same i (.bool (rf (M.map (·.p)) (natsG s) (k + 1) i)))
            have HBN2 := Lib.hid (HBN.out.setCell (p := ⟨gn, i, none⟩) (Nat.le_refl _) (.bool (rf (M.map (·.p)) (natsG s) (k + 1) i)))
            rw [rowV_set _ hil, rowV_ext (fun j _ => nxA_put (M.map (·.p)) (natsG s) k i j)] at HKN2
            have i0 : (i : Int) < (b.size : Int) + 1 := by omega
            have HNX : Hid (rf (M.map (·.p)) (natsG s) (k + 1) i = onF (M.map (·.p)) (natsG s) k (i + 1)) := Lib.hid rfl
            generalize rf (M.map (·.p)) (natsG s) (k + 1) i = vn at *
            generalize rf (M.map (·.p)) (natsG s) k i = va at *
            generalize onF (M.map (·.p)) (natsG s) k i = vo at *
            generalize nxA (M.map (·.p)) (natsG s) k i i = vz at *
            cases vo with
            | true =>
              obtain rfl : vn = true := HON.out.symm
              go_wp2_with fail
              exact ⟨⟨i + 1, congrArg Value.bool HNX.out, rfl, by omega, HKN2, HBN2⟩, by simp only [intOf]; omega⟩
            | false =>
              obtain rfl : vn = va := HON.out.symm
              go_wp2_with fail
              exact ⟨⟨i + 1, congrArg Value.bool HNX.out, rfl, by omega, HKN2, HBN2⟩, by simp only [intOf]; omega⟩
          · obtain rfl : i = b.size + 1 := by omega
            have i0 : ¬ (((b.size + 1 : Nat) : Int) < (b.size : Int) + 1) := by omega
            have HKE : Hid (Blk wr gn 4 (rowV (b.size + 1) (rf (M.map (·.p)) (natsG s) (k + 1)))) := Lib.hid (by rw [← rowV_ext (fun j hj => nxA_end (M.map (·.p)) (natsG s) k hj)]; exact HKN.out)
            go_wp2_with fail
            exact ⟨⟨gn, k + 1, rfl, rfl, by omega, HKE, Lib.hid (HBW4.out.trans (HBN.out.mono HW3.out))⟩, by simp only [intOf]; omega⟩
      | false =>
        rw [hany] at HKB4 HAN
        clear hany
        go_wp2_with fail
        go_loopw [29] (fun y wr => ∃ (i : Nat), y = .int .i64 (i : Int) ∧ i ≤ b.size + 1 ∧ Hid (Blk wr gn 4 (rowV (b.size + 1) (nxO (M.map (·.p)) (natsG s) k i))) ∧ Hid (Below gn w4 wr)) (fun y _ => b.size + 1 - (intOf y).toNat)
        case atStart => exact ⟨0, rfl, by omega, Lib.hid (by rw [nxO_zero HAN.out]; exact HKN.out), Lib.hid (Below.refl _ _)⟩
        case round =>
          clear HKN
          obtain ⟨i, rfl, hi, HKN, HBN⟩ := hrel
          by_cases hil : i < b.size + 1
          · have ca := (HKA4.out.below HBN.out HGA.out).cell (rowV_at (rf (M.map (·.p)) (natsG s) k) hil)
            have cy := (HKB4.out.below HBN.out HGB.out).cell (rpL_any false pg.p.set pg.self)
            have i0 : (i : Int) < (b.size : Int) + 1 := by omega
            by_cases him : i < b.size
            · have i1 : (i : Int) < (b.size : Int) := by omega
              have HBX := HKB4.out.below HBN.out HGB.out
              have cs := HBX.cell (rpL_at false pg.p.set pg.self (b[i].toNat_lt))
              have HX : Hid (rf (M.map (·.p)) (natsG s) (k + 1) (i + 1) = (rf (M.map (·.p)) (natsG s) k i && pg.p.set b[i].toNat)) := Lib.hid (by rw [rf_one HAN.out, HST.out, natsG_at (HS.out.at_ him)])
              have c6 : ((b[i].toNat : Nat) : Int) < 256 := by have := b[i].toNat_lt; omega
              clear HBX
              generalize rf (M.map (·.p)) (natsG s) k i = va at *
              generalize pg.p.set b[i].toNat = vs at *
              cases va with
              | false =>
                go_wp2_with fail
                exact ⟨⟨i + 1, rfl, by omega, Lib.hid (by rw [← rowV_ext (fun j _ => nxO_stay (show rf (M.map (·.p)) (natsG s) (k + 1) (i + 1) = false by rw [HX.out]; rfl) j)]; exact HKN.out), HBN⟩, by simp only [intOf]; omega⟩
              | true =>
                cases vs with
                | false =>
                  go_wp2_with fail
                  exact ⟨⟨i + 1, rfl, by omega, Lib.hid (by rw [← rowV_ext (fun j _ => nxO_stay (show rf (M.map (·.p)) (natsG s) (k + 1) (i + 1) = false by rw [HX.out]; rfl) j)]; exact HKN.out), HBN⟩, by simp only [intOf]; omega⟩
                | true =>
                  have hi1 : i + 1 < b.size + 1 := by omega
                  have cn := HKN.out.cell (rowV_at (nxO (M.map (·.p)) (natsG s) k i) hi1)
                  have fn := HKN.out.free (i + 1)
                  have i2 : (i : Int) + 1 < (b.size : Int) + 1 := by omega
                  have i3 : 0 ≤ (i : Int) + 1 := by omega
                  have HKN2 := Lib.hid (HKN.out.same (i + 1) (.bool true))
                  have HBN2 := Lib.hid (HBN.out.setCell (p := ⟨gn, i + 1, none⟩) (Nat.le_refl _) (.bool true))
                  rw [rowV_set _ hi1, rowV_ext (fun j _ => nxO_put (show rf (M.map (·.p)) (natsG s) (k + 1) (i + 1) = true by rw [HX.out]; rfl) j)] at HKN2
                  go_wp2_with fail
                  exact ⟨⟨i + 1, rfl, by omega, HKN2, HBN2⟩, by simp only [intOf]; omega⟩
            · have i1 : (b.size : Int) ≤ (i : Int) := by omega
              generalize rf (M.map (·.p)) (natsG s) k i = va at *
              go_wp2_with fail
              exact ⟨⟨i + 1, rfl, by omega, Lib.hid (by rw [rowV_ext (fun j hj => (nxO_last (M.map (·.p)) (natsG s) k hj (show b.size ≤ i + 1 by omega)).trans (nxO_last (M.map (·.p)) (natsG s) k hj (show b.size ≤ i by omega)).symm)]; exact HKN.out), HBN⟩, by simp only [intOf]; omega⟩
          · have hib : i = b.size + 1 := by omega
            subst hib
            have i0 : ¬ (((b.size + 1 : Nat) : Int) < (b.size : Int) + 1) := by omega
            have HKE : Hid (Blk wr gn 4 (rowV (b.size + 1) (rf (M.map (·.p)) (natsG s) (k + 1)))) := Lib.hid (by rw [← rowV_ext (fun j hj => nxO_last (M.map (·.p)) (natsG s) k hj (show b.size ≤ b.size + 1 by omega))]; exact HKN.out)
            go_wp2_with fail
            exact ⟨⟨gn, k + 1, rfl, rfl, by omega, HKE, Lib.hid (HBW4.out.trans (HBN.out.mono HW3.out))⟩, by simp only [intOf]; omega⟩
    · obtain rfl : k = n := by omega
      have cl := HKA.out.cell (rowV_at (rf (M.map (·.p)) (natsG s) k) (show b.size < b.size + 1 by omega))
      have HF : Hid (rf (M.map (·.p)) (natsG s) k b.size = fitG M s) := Lib.hid (by unfold fitG; rw [HM.out, HSZ.out])
      have i0 : (b.size : Int) < (b.size : Int) + 1 := by omega
      go_wp2_with fail
      go_ret
      exact ⟨ret_bool HF.out, HBW.out⟩
end Go.Proofs.Ytjdfmmjadjggjaa
