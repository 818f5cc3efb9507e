/- Contract of the reference: FirstWay. Rows are good; the sets lie within the rows. -/
import Derived.Test.YtonmkmghpiagjaaDoorWay2
import Derived.Test.YtonmkmghpiagjaaDoorWay3
namespace Go.Proofs.YtonmkmghpiagjaaDoor
open Go.RowKit

theorem rd_row {w : World} {A : Option Addr} {n : Nat} {f : Nat → Int} (h : Rd w A (((List.range n).map f).map iv)) {x : Nat} (hx : x < n) :
    ∃ b off, A = some ⟨b, off, none⟩ ∧ w.cell? ⟨b, off + x, none⟩ = some (.int .i64 (f x)) := by
  obtain ⟨b, off, rfl, hc⟩ := h.at_ (k := x) (by simpa using hx)
  refine ⟨b, off, rfl, ?_⟩
  rw [hc]
  simp [iv]
/-- The least level so far. -/
def LeastRel (f : Nat → Int) (xs : List Nat) (r : Int) : Prop :=
  (r = -1 ∧ ∀ x ∈ xs, f x < 0) ∨ (0 ≤ r ∧ (∃ x ∈ xs, f x = r) ∧ ∀ x ∈ xs, 0 ≤ f x → r ≤ f x)
theorem least_skip {f : Nat → Int} {xs : List Nat} {r : Int} {q : Nat} (h : LeastRel f xs r) (hq : f q < 0 ∨ (0 ≤ r ∧ r ≤ f q)) : LeastRel f (xs ++ [q]) r := by
  rcases h with ⟨h1, h2⟩ | ⟨h1, ⟨x, h2, h3⟩, h4⟩
  · left
    refine ⟨h1, fun x hx => ?_⟩
    rcases List.mem_append.1 hx with h | h
    · exact h2 x h
    · rw [List.mem_singleton] at h; subst h; omega
  · right
    refine ⟨h1, ⟨x, List.mem_append_left _ h2, h3⟩, fun y hy hy0 => ?_⟩
    rcases List.mem_append.1 hy with h | h
    · exact h4 y h hy0
    · rw [List.mem_singleton] at h; subst h; omega
theorem least_take {f : Nat → Int} {xs : List Nat} {r : Int} {q : Nat} (h : LeastRel f xs r) (h0 : 0 ≤ f q) (hq : r < 0 ∨ f q < r) : LeastRel f (xs ++ [q]) (f q) := by
  right
  refine ⟨h0, ⟨q, by simp, rfl⟩, fun y hy hy0 => ?_⟩
  rcases List.mem_append.1 hy with hm | hm
  · rcases h with ⟨_, h2⟩ | ⟨h1, _, h4⟩
    · have := h2 y hm; omega
    · have := h4 y hm hy0; omega
  · rw [List.mem_singleton] at hm; subst hm; omega
theorem least_meet {l : List Nat} (hg : Good l) {a b : Nat} (ha : B64 a) (hb : InRows l b) {r : Int} (h : LeastRel (lev l b l.length) (nums a) r) :
    (∀ m, Meet l a b m → r = (m : Int)) ∧ (NoMeet l a b → r = -1) := by
  have hlev := fun x => lev_ring hg hb l.length x
  constructor
  · intro m hm
    obtain ⟨x, hxa, hxr⟩ := and_some hm.1
    have hxl := (meet_level hm hxa).1 hxr
    have hxm : lev l b l.length x = (m : Int) := ((hlev x).1 m).2 ⟨level_le hg hb hxl, hxl⟩
    rcases h with ⟨_, h2⟩ | ⟨h1, ⟨y, h2, h3⟩, h4⟩
    · have := h2 x ((mem_nums ha).2 hxa); omega
    · have h5 := h4 x ((mem_nums ha).2 hxa) (by omega)
      have h6 := ((hlev y).1 r.toNat).1 (by omega)
      have hya := (mem_nums ha).1 h2
      have : m ≤ r.toNat := by
        rcases Nat.lt_or_ge r.toNat m with hlt | hge
        · have := and_zero.1 (hm.2 _ hlt) y hya
          rw [h6.2.1] at this; cases this
        · exact hge
      omega
  · intro hno
    rcases h with ⟨h1, _⟩ | ⟨h1, ⟨y, h2, h3⟩, _⟩
    · exact h1
    · have h6 := ((hlev y).1 r.toNat).1 (by omega)
      have := and_zero.1 (hno r.toNat) y ((mem_nums ha).1 h2)
      rw [h6.2.1] at this; cases this
/-- The first number of the level is the least one. -/
theorem first_low {l : List Nat} (hg : Good l) {cur b j k : Nat} (hc : B64 cur) (hb : InRows l b) (hm : Meet l cur b j) (hk : k < (nums cur).length)
    (hno : ∀ i, i < k → lev l b l.length ((nums cur)[i]?.getD 0) ≠ (j : Int)) (hyes : lev l b l.length ((nums cur)[k]?.getD 0) = (j : Int)) : (nums cur)[k]?.getD 0 = low (cur &&& ring l b j) := by
  have hlev := fun x => lev_ring hg hb l.length x
  have hx1 : (nums cur)[k]?.getD 0 ∈ nums cur := by simp [hk]
  have hxa := (mem_nums hc).1 hx1
  have hxl := (((hlev _).1 j).1 hyes).2
  have hB : B64 (cur &&& ring l b j) := hc.and
  have h1 : low (cur &&& ring l b j) ≤ (nums cur)[k]?.getD 0 := low_le hB (by rw [Nat.testBit_and, hxa, hxl.1]; rfl)
  have hlow := low_bit hB hm.1
  rw [Nat.testBit_and, Bool.and_eq_true] at hlow
  have hlm := (mem_nums hc).2 hlow.1
  have hll := (meet_level hm hlow.1).1 hlow.2
  have hlj : lev l b l.length (low (cur &&& ring l b j)) = (j : Int) := ((hlev _).1 j).2 ⟨level_le hg hb hll, hll⟩
  obtain ⟨i, hi, he⟩ := List.mem_iff_getElem.1 hlm
  rcases Nat.lt_trichotomy i k with h | h | h
  · have := hno i h
    rw [List.getElem?_eq_getElem hi] at this
    simp only [Option.getD_some] at this
    rw [he] at this
    exact absurd hlj this
  · subst h
    rw [List.getElem?_eq_getElem hi]
    exact he
  · have hs := List.pairwise_iff_getElem.1 (nums_sorted cur) k i hk hi h
    rw [he] at hs
    rw [List.getElem?_eq_getElem hk] at h1
    simp only [Option.getD_some] at h1
    omega
theorem some_level {l : List Nat} (hg : Good l) {cur b j : Nat} (hc : B64 cur) (hb : InRows l b) (hm : Meet l cur b j) (hno : ∀ i, i < (nums cur).length → lev l b l.length ((nums cur)[i]?.getD 0) ≠ (j : Int)) : False := by
  have hB : B64 (cur &&& ring l b j) := hc.and
  have hlow := low_bit hB hm.1
  rw [Nat.testBit_and, Bool.and_eq_true] at hlow
  have hlm := (mem_nums hc).2 hlow.1
  have hll := (meet_level hm hlow.1).1 hlow.2
  have hlj : lev l b l.length (low (cur &&& ring l b j)) = (j : Int) := ((lev_ring hg hb l.length _).1 j).2 ⟨level_le hg hb hll, hll⟩
  obtain ⟨i, hi, he⟩ := List.mem_iff_getElem.1 hlm
  have := hno i hi
  rw [List.getElem?_eq_getElem hi] at this
  simp only [Option.getD_some] at this
  rw [he] at this
  exact this hlj

def FirstPost (l : List Nat) (a b : Nat) (w : World) (e : Ending) (w' : World) : Prop :=
  (∃ m : Nat, Meet l a b m ∧ (∃ A c, e = .returned (.tuple #[.slice A (m + 1) c, .bool true]) ∧ w'.ownsRow w.heap.size 3 1 (.slice A (m + 1) c) (m + 1) ((wayL l b m a).map nv)) ∧ Below w.heap.size w w') ∨
  (NoMeet l a b ∧ e = .returned (.tuple #[.slice none 0 0, .bool false]) ∧ Below w.heap.size w w')
set_option maxRecDepth 100000 in
set_option maxHeartbeats 4000000 in
theorem rFirstWay_any {A : Option Addr} {n c : Nat} (l : List Nat) (a b : Nat) (w : World) (h1 : Rd w A (l.map uv)) (hl : l.length = n) (hg : Good l) (ha : InRows l a) (hb : InRows l b) :
    Calls Tryd.prog 13 #[.slice A n c, .int .u64 a, .int .u64 b] w (FirstPost l a b w) := by
  have hn : n ≤ 64 := by have := hg.1; omega
  have HL := Lib.hid hl
  have HG := Lib.hid hg
  have HIB := Lib.hid hb
  have HIA := Lib.hid ha
  have HBA := Lib.hid (ha.b64 hg)
  have H1 := Lib.hid h1
  have hlen := nums_len a
  have HLV := Lib.hid (lev_bounds hg hb n)
  have HLM := Lib.hid (fun r h => least_meet hg (ha.b64 hg) hb (r := r) (by rw [hl]; exact h))
  have HML := Lib.hid (fun (m : Nat) (h : Meet l a b m) => meet_le hg hb h)
  clear hl hg hb ha h1
  go_enter Tryd.func13, Tryd.ntmps13
  go_wp2_with fail
  refine (rDistances_any l b _ H1.out HL.out HG.out HIB.out).mono ?_
  rintro e w1 ⟨A1, c1, rfl, hown, hb1⟩
  have HD := Lib.hid (Rd.of_own hown)
  have HB1 := Lib.hid hb1
  clear hown hb1
  go_wp2_with fail
  refine (rNumbers_any _ HBA.out _).mono ?_
  rintro e w2 ⟨A2, c2, rfl, hown, hb2⟩
  have HN := Lib.hid (Rd.of_own hown)
  have HD2 := Lib.hid (HD.out.below hb2)
  have HB2 := Lib.hid (below_then HB1.out hb2)
  clear hown hb2
  go_wp2_with fail
  go_loop [9, 11, 21] (fun r _ i => ∃ (k : Nat) (z : Int), k ≤ (nums a).length ∧ i = .int .i64 k ∧ r = .int .i64 z ∧ -1 ≤ z ∧ z ≤ 64 ∧ Hid (LeastRel (lev l b n) ((nums a).take k) z)) (fun _ _ i => (nums a).length - (intOf i).toNat)
  case atStart => exact ⟨0, -1, by omega, rfl, rfl, by omega, by omega, Lib.hid (.inl ⟨rfl, fun x hx => by simp at hx⟩)⟩
  case round =>
    obtain ⟨k, z, hk, rfl, rfl, hz1, hz2, hr⟩ := hrel
    by_cases hkl : k < (nums a).length
    · obtain ⟨b2, o2, rfl, hc⟩ := HN.out.at_ (k := k) (by simpa using hkl)
      have hc' : w2.cell? ⟨b2, o2 + k, none⟩ = some (.int .i64 ((nums a)[k]?.getD 0 : Nat)) := by rw [hc]; simp [nv, hkl]
      have hqm : (nums a)[k]?.getD 0 ∈ nums a := by simp [hkl]
      have hqn : (nums a)[k]?.getD 0 < n := by
        have := HIA.out _ ((mem_nums HBA.out).1 hqm)
        rw [HL.out] at this; exact this
      have HTK := Lib.hid (take_snoc (nums a) 0 k hkl)
      clear hc hqm
      generalize (nums a)[k]?.getD 0 = q at *
      obtain ⟨b3, o3, rfl, x3⟩ := rd_row HD2.out hqn
      have hv := HLV.out q
      have HSK := Lib.hid (fun h => least_skip (q := q) hr.out h)
      have HTA := Lib.hid (fun h0 h => least_take (q := q) hr.out h0 h)
      generalize lev l b n q = v at *
      by_cases hv0 : 0 ≤ v
      · by_cases hc0 : z < 0 ∨ v < z
        · have HV := Lib.hid (HTA.out hv0 hc0)
          rcases hc0 with hc0 | hc0
          · go_wp2
            go_round
            case rel => exact ⟨k + 1, v, by omega, by go_num, rfl, by omega, by omega, Lib.hid (by rw [HTK.out]; exact HV.out)⟩
            case measure => simp [intOf]; omega
          · by_cases hz0 : z < 0
            · go_wp2
              go_round
              case rel => exact ⟨k + 1, v, by omega, by go_num, rfl, by omega, by omega, Lib.hid (by rw [HTK.out]; exact HV.out)⟩
              case measure => simp [intOf]; omega
            · go_wp2
              go_round
              case rel => exact ⟨k + 1, v, by omega, by go_num, rfl, by omega, by omega, Lib.hid (by rw [HTK.out]; exact HV.out)⟩
              case measure => simp [intOf]; omega
        · have hz0 : ¬ z < 0 := fun h => hc0 (.inl h)
          have hvz : ¬ v < z := fun h => hc0 (.inr h)
          have HV := Lib.hid (HSK.out (.inr ⟨by omega, by omega⟩))
          clear hc0
          go_wp2
          go_round
          case rel => exact ⟨k + 1, z, by omega, by go_num, rfl, by omega, by omega, Lib.hid (by rw [HTK.out]; exact HV.out)⟩
          case measure => simp [intOf]; omega
      · have HV := Lib.hid (HSK.out (.inl (by omega)))
        go_wp2
        go_round
        case rel => exact ⟨k + 1, z, by omega, by go_num, rfl, by omega, by omega, Lib.hid (by rw [HTK.out]; exact HV.out)⟩
        case measure => simp [intOf]; omega
    · have hfin := hr.out
      rw [List.take_of_length_le (by omega)] at hfin
      have HLE := Lib.hid (HLM.out z hfin)
      clear hfin hr
      rcases meet_or l a b with ⟨m, hm⟩ | hno
      · have hzm := HLE.out.1 m hm
        have hmn : m ≤ n := by have := HML.out m hm; rw [HL.out] at this; exact this
        subst hzm
        have HST := Lib.hid (someRel_start HBA.out HIA.out hm)
        have HMM := Lib.hid hm
        clear hm
        go_wp2
        go_loopw [1, 9, 12, 14, 54, 55, 56] (fun t i v _ _ _ _ wr => ∃ (q cur k : Nat) (done : List Nat) (A3 : Option Addr) (c3 : Nat), q ≤ m + 1 ∧ k ≤ m + 1 ∧ i = .int .i64 ((q : Int) - 1) ∧ t = .int .u64 (cur : Int) ∧ v = .slice A3 k c3 ∧ Hid (SomeRel l a b m done cur q) ∧ Hid (wr.ownsRow w2.heap.size 3 1 (.slice A3 k c3) k (done.map nv)) ∧ Hid (Below w2.heap.size w2 wr)) (fun _ i _ _ _ _ _ _ => (intOf i + 1).toNat)
        case atStart => exact ⟨m + 1, a, 0, [], none, 0, by omega, by omega, by go_num, rfl, rfl, HST, Lib.hid (World.ownsRow_nil _ _ _ _), Lib.hid (Below.refl _ _)⟩
        case round =>
          clear HST
          obtain ⟨q, cur, k2, done, A3, c3, hq, hk2, rfl, rfl, rfl, hr, hown, hbw⟩ := hrel
          cases q with
          | zero =>
            have hdl : k2 = m + 1 := by
              have h3 := own_len hown.out
              have h4 := hr.out.2.1
              simp at h3
              omega
            subst hdl
            have hneg : ((0 : Nat) : Int) - 1 < 0 := by decide
            have HE := Lib.hid (hr.out.2.2.1 rfl)
            go_wp2_with fail
            go_ret2
            exact .inl ⟨m, HMM.out, ⟨A3, c3, rfl, by rw [← HE.out]; exact own_base hown.out HB2.out.size⟩, below_then HB2.out hbw.out⟩
          | succ j =>
            have ej : ((j + 1 : Nat) : Int) - 1 = (j : Int) := by omega
            rw [ej]
            have hjm : j ≤ m := by omega
            have hkl2 : k2 ≤ m := by
              have h3 := own_len hown.out
              have h4 := hr.out.2.1
              simp at h3
              omega
            have HMJ := Lib.hid (hr.out.2.2.2.1 j rfl).1
            have HIC := Lib.hid hr.out.2.2.2.2
            have HNX := Lib.hid (someRel_next HG.out HIB.out hr.out)
            have HCB := Lib.hid hr.out.1
            have HFL := Lib.hid (fun k hk hno hyes => first_low (k := k) HG.out HCB.out HIB.out HMJ.out hk hno hyes)
            have HSL := Lib.hid (fun hno => some_level HG.out HCB.out HIB.out HMJ.out hno)
            have hclen := nums_len cur
            have HCL : Hid (∀ k, k < (nums cur).length → cur.testBit ((nums cur)[k]?.getD 0) = true) := Lib.hid (fun k hk => (mem_nums HCB.out).1 (by simp [hk]))
            have hsz := hbw.out.size
            have HOW := hown
            clear ej hr hown
            go_wp2_with fail
            refine (rNumbers_any _ HCB.out _).mono ?_
            rintro e w5 ⟨A5, c5, rfl, hown5, hb5⟩
            have HN5 := Lib.hid (Rd.of_own hown5)
            have HO5 := Lib.hid (own_below HOW.out hb5)
            have HB5 := Lib.hid (below_then hbw.out hb5)
            have HD5 := Lib.hid ((HD2.out.below hbw.out).below hb5)
            have HR5 := Lib.hid (H1.out.below HB2.out)
            have hsz5 : w2.heap.size ≤ w5.heap.size := HB5.out.size
            clear hown5 hb5 HOW
            go_wp2_with fail
            go_loop [1, 12, 14, 56] (fun t v _ i => ∃ k : Nat, k ≤ (nums cur).length ∧ i = .int .i64 k ∧ t = .int .u64 (cur : Int) ∧ v = .slice A3 k2 c3 ∧ Hid (∀ i, i < k → lev l b n ((nums cur)[i]?.getD 0) ≠ (j : Int))) (fun _ _ _ i => (nums cur).length - (intOf i).toNat)
            case atStart => exact ⟨0, by omega, rfl, rfl, rfl, Lib.hid (fun i hi => absurd hi (by omega))⟩
            case round =>
              obtain ⟨k, hk, rfl, rfl, rfl, hno⟩ := hrel
              by_cases hkl : k < (nums cur).length
              · obtain ⟨b2, o2, rfl, hc⟩ := HN5.out.at_ (k := k) (by simpa using hkl)
                have hc' : w5.cell? ⟨b2, o2 + k, none⟩ = some (.int .i64 ((nums cur)[k]?.getD 0 : Nat)) := by rw [hc]; simp [nv, hkl]
                have hxl : (nums cur)[k]?.getD 0 < l.length := HIC.out _ (HCL.out k hkl)
                have hxn : (nums cur)[k]?.getD 0 < n := by rw [← HL.out]; exact hxl
                have HFK := Lib.hid (fun h1 h2 => HFL.out k hkl h1 h2)
                have HNK : Hid (lev l b n ((nums cur)[k]?.getD 0) ≠ (j : Int) → ∀ i, i < k + 1 → lev l b n ((nums cur)[i]?.getD 0) ≠ (j : Int)) := Lib.hid (fun h i hi => by
                  rcases Nat.lt_or_ge i k with h' | h'
                  · exact hno.out i h'
                  · obtain rfl : i = k := by omega
                    exact h)
                clear hc
                obtain ⟨b3, o3, rfl, x3⟩ := rd_row HD5.out hxn
                obtain ⟨b4, o4, rfl, x4⟩ := HR5.out.set hxl
                have X4 := Lib.hid x4
                clear x4 hxl
                by_cases hv : lev l b n ((nums cur)[k]?.getD 0) = (j : Int)
                · have HX := Lib.hid (HFK.out (fun i hi => by rw [HL.out]; exact hno.out i hi) (by rw [HL.out]; exact hv))
                  have HV := Lib.hid hv
                  have hve : (lev l b n ((nums cur)[k]?.getD 0) == (j : Int)) = true := by simp [hv]
                  clear hv
                  generalize (nums cur)[k]?.getD 0 = x at *
                  generalize lev l b n x = v at *
                  go_wp2_with (at_builtin; refine wpList_push elInt w5 _ _ w2.heap.size A3 k2 c3 _ (nv x) HO5.out rfl hsz5 (by omega) (by omega) rfl rfl rfl rfl ?_; intro A' c' w6 hown6 hb6; have x5 := ((HB5.out.trans hb6).cell (p := ⟨b4, o4 + x, none⟩) (lt_of_cell' X4.out)).trans X4.out)
                  go_roundw
                  case rel => exact ⟨j, rowAt l x, k2 + 1, done ++ [x], A', c', by omega, by omega, rfl, rfl, rfl, Lib.hid (by rw [HX.out]; exact HNX.out), Lib.hid (by rw [List.map_append]; exact hown6), Lib.hid (HB5.out.trans hb6)⟩
                  case measure => simp [intOf]
                · have HV := Lib.hid (HNK.out hv)
                  have hve : (lev l b n ((nums cur)[k]?.getD 0) == (j : Int)) = false := by simp [hv]
                  clear hv
                  generalize (nums cur)[k]?.getD 0 = x at *
                  generalize lev l b n x = v at *
                  go_wp2
                  go_round
                  case rel => exact ⟨k + 1, by omega, by go_num, rfl, rfl, HV⟩
                  case measure => simp [intOf]; omega
              · exact absurd (HSL.out (fun i hi => by rw [HL.out]; exact hno.out i (by omega))) (fun h => h)
      · have hzm := HLE.out.2 hno
        subst hzm
        have HNO := Lib.hid hno
        clear hno
        go_wp2
        go_ret2
        exact .inr ⟨HNO.out, rfl, HB2.out⟩
end Go.Proofs.YtonmkmghpiagjaaDoor
