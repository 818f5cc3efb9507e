/- Contract of the reference: Ruling. The rows are good. -/
import Derived.Test.YtonmkmghpiagjaaDoorDomPlain5
import Derived.Test.YtonmkmghpiagjaaDoorDom2
namespace Go.Proofs.YtonmkmghpiagjaaDoor
open Go.RowKit

/-- How long a slice is. -/
def slN : Value → Nat
  | .slice _ n _ => n
  | _ => 0
def inTk (O : List Nat) (t b : Nat) : Bool := decide (b ∈ O.take t)
theorem inTk_zero (O : List Nat) (b : Nat) : inTk O 0 b = false := by simp [inTk]
theorem inTk_snoc {O : List Nat} {t b : Nat} (ht : t < O.length) : inTk O (t + 1) b = (inTk O t b || decide (O[t]?.getD 0 = b)) := by
  unfold inTk
  rw [take_snoc O 0 t ht, Bool.eq_iff_iff]
  simp
  constructor
  · rintro (h | h)
    · exact .inl h
    · exact .inr h.symm
  · rintro (h | h)
    · exact .inl h
    · exact .inr h.symm
theorem inTk_all {O : List Nat} {t b : Nat} (ht : t = O.length) : inTk O t b = decide (b ∈ O) := by subst ht; simp [inTk]
def okTk (O R : List Nat) (a p : Nat) : Bool := (R.take p).all (fun b => decide (b = a) || decide (b ∈ O))
theorem okTk_snoc {O R : List Nat} {a p : Nat} (hp : p < R.length) : okTk O R a (p + 1) = (okTk O R a p && (decide (R[p]?.getD 0 = a) || decide (R[p]?.getD 0 ∈ O))) := by
  unfold okTk
  rw [take_snoc R 0 p hp, List.all_append]
  simp
def noTk (O : List Nat) (a t : Nat) : Bool := (O.take t).all (fun c => decide (c ≠ a))
theorem noTk_snoc {O : List Nat} {a t : Nat} (ht : t < O.length) : noTk O a (t + 1) = (noTk O a t && decide (O[t]?.getD 0 ≠ a)) := by
  unfold noTk
  rw [take_snoc O 0 t ht, List.all_append]
  simp
theorem next_tk (O R : List Nat) (a : Nat) : nextOk O R a = (okTk O R a R.length && noTk O a O.length) := by
  unfold nextOk okTk noTk
  rw [List.take_of_length_le (Nat.le_refl _), List.take_of_length_le (Nat.le_refl _)]

set_option maxHeartbeats 4000000 in
set_option maxRecDepth 20000 in
theorem rRuling_any {A : Option Addr} {n c : Nat} (l : List Nat) (root m : Nat) (w : World) (h1 : Rd w A (l.map uv)) (hl : l.length = n) (hg : Good l) (hr : root < n) (hm : m < n) :
    Calls Tryd.prog 46 #[.slice A n c, .int .i64 (root : Int), .int .i64 (m : Int)] w (OwnPost 3 (domC l root m).length ((domC l root m).map nv) w) := by
  have hn : n ≤ 64 := by have := hg.1; omega
  have hrl : root < l.length := by omega
  have HRB := Lib.hid (fun W (hW : Below w.heap.size w W) a (ha : a < n) => rRuledBy_any (c := c) l root a W (h1.below hW) hl hg hr ha)
  have HBB := Lib.hid (fun a => (ruledBy_in l root a).b64 hg)
  have HLN := Lib.hid (domC_len (l := l) (root := root) (m := m))
  have HCH := Lib.hid (domC_chain (n := m) hg hrl)
  have HNI := Lib.hid (fun k a hk ha => next_iff (k := k) (a := a) hg hrl (domC_chain (n := m) hg hrl) hk ha)
  have HRL : Hid (∀ a, a ∈ nums (ruledBy l root m) → a < n) := Lib.hid (fun a ha => by rw [← hl]; exact ruled_len hg hrl ha)
  have HRL2 : Hid (∀ x a, a ∈ nums (ruledBy l root x) → a < n) := Lib.hid (fun x a ha => by rw [← hl]; exact ruled_len hg hrl ha)
  clear h1 hl hg hrl
  go_enter Tryd.func46, Tryd.ntmps46
  go_wp2_with fail
  refine (HRB.out w (Below.refl _ _) m hm).mono ?_
  rintro e w1 ⟨rfl, hb1⟩
  have HB1 := Lib.hid hb1
  clear hb1
  go_wp2_with fail
  refine (rNumbers_any _ (HBB.out m) _).mono ?_
  rintro e w2 ⟨A2, c2, rfl, hown2, hb2⟩
  have HR2 := Lib.hid (Rd.of_own hown2)
  have HB2 := Lib.hid (below_then HB1.out hb2)
  have hlen2 := nums_len (ruledBy l root m)
  clear hown2 hb2
  have hpm : ∀ x, x ∈ domC l root m ↔ x ∈ nums (ruledBy l root m) := fun x => HCH.out.1.mem_iff
  have HPM := Lib.hid hpm
  have hCL := HLN.out
  clear hpm
  generalize hK : (nums (ruledBy l root m)).length = K at *
  go_wp2_with fail
  go_loopw [8, 10, 11, 13, 14, 16, 18, 31, 41, 47, 70] (fun v _ _ _ _ _ _ _ _ _ _ wr => ∃ (k : Nat) (A3 : Option Addr) (c3 : Nat), k ≤ K ∧ v = .slice A3 k c3 ∧ Hid (wr.ownsRow w2.heap.size 3 1 (.slice A3 k c3) k (((domC l root m).take k).map nv)) ∧ Hid (Below w2.heap.size w2 wr)) (fun v _ _ _ _ _ _ _ _ _ _ _ => K - slN v)
  case atStart => exact ⟨0, none, 0, by omega, rfl, Lib.hid (World.ownsRow_nil _ _ _ _), Lib.hid (Below.refl _ _)⟩
  case round =>
    obtain ⟨k, A3, c3, hk, rfl, hown, hbw⟩ := hrel
    by_cases hkK : k < K
    · have hkC : k < (domC l root m).length := by omega
      have hOL : ((domC l root m).take k).length = k := by simp; omega
      generalize hO : (domC l root m).take k = O at *
      have HO := Lib.hid hO
      have HOL := Lib.hid hOL
      have HKC := Lib.hid hkC
      clear hO hOL hkC
      go_wp2_with fail
      go_loopw [8, 10, 11, 13, 14, 16, 18, 31, 41, 47, 70] (fun v _ _ _ _ _ _ i _ _ _ wq => ∃ (t : Nat), t ≤ K ∧ i = .int .i64 (t : Int) ∧ v = .slice A3 k c3 ∧ Hid (∀ j, j < t → (nums (ruledBy l root m))[j]?.getD 0 ≠ (domC l root m)[k]?.getD 0) ∧ Hid (wq.ownsRow w2.heap.size 3 1 (.slice A3 k c3) k (O.map nv)) ∧ Hid (Below w2.heap.size w2 wq)) (fun _ _ _ _ _ _ _ i _ _ _ _ => K - (intOf i).toNat)
      case atStart => exact ⟨0, by omega, rfl, rfl, Lib.hid (fun j hj => absurd hj (by omega)), hown, hbw⟩
      case round =>
        clear hown hbw
        obtain ⟨t, ht, rfl, rfl, hno, hown, hbw⟩ := hrel
        by_cases htK : t < K
        · obtain ⟨b7, o7, rfl, hc⟩ := (HR2.out.below hbw.out).at_ (k := t) (by rw [List.length_map, hK]; exact htK)
          have htk2 : t < (nums (ruledBy l root m)).length := by omega
          have hc' : wr.cell? ⟨b7, o7 + t, none⟩ = some (.int .i64 ((nums (ruledBy l root m))[t]?.getD 0 : Nat)) := by rw [hc]; simp [nv, htk2]
          have ham : (nums (ruledBy l root m))[t]?.getD 0 ∈ nums (ruledBy l root m) := by simp [htk2]
          have HNX : Hid ((nums (ruledBy l root m))[t]?.getD 0 ≠ (domC l root m)[k]?.getD 0 → ∀ j, j < t + 1 → (nums (ruledBy l root m))[j]?.getD 0 ≠ (domC l root m)[k]?.getD 0) := Lib.hid (fun h j hj => by
            rcases Nat.lt_or_ge j t with h' | h'
            · exact hno.out j h'
            · obtain rfl : j = t := by omega
              exact h)
          clear hc hno htk2
          generalize (nums (ruledBy l root m))[t]?.getD 0 = a at *
          have HAN := Lib.hid (HRL.out a ham)
          have HNK : Hid (nextOk O (nums (ruledBy l root a)) a = decide (a = (domC l root m)[k]?.getD 0)) := Lib.hid (by
            have := HNI.out k a HKC.out ((HPM.out a).2 ham)
            rw [HO.out] at this
            rw [this]
            simp [HKC.out])
          have HWR := Lib.hid (HRB.out wr (below_then HB2.out hbw.out) a HAN.out)
          have HOW := hown
          have HBW := hbw
          clear ham hown hbw
          go_wp2_with fail
          refine HWR.out.mono ?_
          rintro e w5 ⟨rfl, hb5⟩
          have HO5 := Lib.hid (own_below HOW.out hb5)
          have hszr : w2.heap.size ≤ wr.heap.size := HBW.out.size
          have HB5 := Lib.hid (HBW.out.trans (hb5.mono hszr))
          clear hb5 hc' HOW HBW HWR
          go_wp2_with fail
          refine (rNumbers_any _ (HBB.out a) _).mono ?_
          rintro e w6 ⟨A6, c6, rfl, hown6, hb6⟩
          have HR6 := Lib.hid (Rd.of_own hown6)
          have HO6 := Lib.hid (own_below HO5.out hb6)
          have hsz5 : w2.heap.size ≤ w5.heap.size := HB5.out.size
          have HB6 := Lib.hid (HB5.out.trans (hb6.mono hsz5))
          have hlen6 := nums_len (ruledBy l root a)
          have HRO := Lib.hid (Rd.of_own HO6.out)
          clear hown6 hb6 HO5 HB5
          go_wp2_with fail
          go_loop [11, 13, 14, 16, 41, 47] (fun nx _ _ _ i _ => ∃ p : Nat, p ≤ (nums (ruledBy l root a)).length ∧ i = .int .i64 (p : Int) ∧ nx = .bool (okTk O (nums (ruledBy l root a)) a p)) (fun _ _ _ _ i _ => (nums (ruledBy l root a)).length - (intOf i).toNat)
          case atStart => exact ⟨0, by omega, rfl, rfl⟩
          case round =>
            obtain ⟨p, hp, rfl, rfl⟩ := hrel
            by_cases hpl : p < (nums (ruledBy l root a)).length
            · obtain ⟨b8, o8, rfl, hc⟩ := HR6.out.at_ (k := p) (by simpa using hpl)
              have hc' : w6.cell? ⟨b8, o8 + p, none⟩ = some (.int .i64 ((nums (ruledBy l root a))[p]?.getD 0 : Nat)) := by rw [hc]; simp [nv, hpl]
              have HSN := Lib.hid (okTk_snoc (O := O) (a := a) hpl)
              clear hc
              generalize (nums (ruledBy l root a))[p]?.getD 0 = b at *
              generalize okTk O (nums (ruledBy l root a)) a p = nx at *
              go_wp2_with fail
              go_loop [14, 16, 47] (fun hs _ i => ∃ t : Nat, t ≤ k ∧ i = .int .i64 (t : Int) ∧ hs = .bool (inTk O t b)) (fun _ _ i => k - (intOf i).toNat)
              case atStart => exact ⟨0, by omega, rfl, by rw [inTk_zero]⟩
              case round =>
                obtain ⟨q, hq, rfl, rfl⟩ := hrel
                by_cases hqk : q < k
                · have hqO : q < O.length := by rw [HOL.out]; exact hqk
                  obtain ⟨b9, o9, rfl, hc⟩ := HRO.out.at_ (k := q) (by simpa using hqO)
                  have hc9 : w6.cell? ⟨b9, o9 + q, none⟩ = some (.int .i64 (O[q]?.getD 0 : Nat)) := by rw [hc]; simp [nv, hqO]
                  have HSQ := Lib.hid (inTk_snoc (b := b) hqO)
                  clear hc hqO
                  generalize O[q]?.getD 0 = y at *
                  cases hh : inTk O q b with
                  | true =>
                    rw [hh] at HSQ
                    clear hh
                    go_wp2_with fail
                    go_round
                    case rel => exact ⟨q + 1, by omega, by go_num, by rw [HSQ.out]; rfl⟩
                    case measure => simp [intOf]; omega
                  | false =>
                    rw [hh] at HSQ
                    clear hh
                    have hyb : ((y : Int) == (b : Int)) = decide (y = b) := by rw [Bool.eq_iff_iff]; simp; omega
                    generalize decide (y = b) = d at *
                    go_wp2_with fail
                    go_round
                    case rel => exact ⟨q + 1, by omega, by go_num, by rw [HSQ.out]; simp⟩
                    case measure => simp [intOf]; omega
                · obtain rfl : q = k := by omega
                  rw [inTk_all (by rw [HOL.out])]
                  cases nx with
                  | false =>
                    go_wp2_with fail
                    go_round
                    case rel => exact ⟨p + 1, by omega, by go_num, by rw [HSN.out]; rfl⟩
                    case measure => simp [intOf]; omega
                  | true =>
                    by_cases hba : b = a
                    · subst hba
                      have hz : (((b : Int)) == (b : Int)) = true := by simp
                      generalize decide (b ∈ O) = d at *
                      go_wp2_with fail
                      go_round
                      case rel => exact ⟨p + 1, by omega, by go_num, by rw [HSN.out]; simp⟩
                      case measure => simp [intOf]; omega
                    · have hz : (((b : Int)) == (a : Int)) = false := by simp; omega
                      have HE : Hid (decide (b = a) = false) := Lib.hid (by simp [hba])
                      rw [HE.out] at HSN
                      clear hba HE
                      generalize decide (b ∈ O) = d at *
                      go_wp2_with fail
                      go_round
                      case rel => exact ⟨p + 1, by omega, by go_num, by rw [HSN.out]; simp⟩
                      case measure => simp [intOf]; omega
            · obtain rfl : p = (nums (ruledBy l root a)).length := by omega
              have HNT : Hid (nextOk O (nums (ruledBy l root a)) a = (okTk O (nums (ruledBy l root a)) a (nums (ruledBy l root a)).length && noTk O a O.length)) := Lib.hid (next_tk O _ a)
              generalize okTk O (nums (ruledBy l root a)) a (nums (ruledBy l root a)).length = nx at *
              go_wp2_with fail
              go_loop [11, 18, 70] (fun y _ i => ∃ t : Nat, t ≤ k ∧ i = .int .i64 (t : Int) ∧ y = .bool (nx && noTk O a t)) (fun _ _ i => k - (intOf i).toNat)
              case atStart => exact ⟨0, by omega, rfl, by simp [noTk]⟩
              case round =>
                obtain ⟨q, hq, rfl, rfl⟩ := hrel
                by_cases hqk : q < k
                · have hqO : q < O.length := by rw [HOL.out]; exact hqk
                  obtain ⟨b9, o9, rfl, hc⟩ := HRO.out.at_ (k := q) (by simpa using hqO)
                  have hc9 : w6.cell? ⟨b9, o9 + q, none⟩ = some (.int .i64 (O[q]?.getD 0 : Nat)) := by rw [hc]; simp [nv, hqO]
                  have HSQ := Lib.hid (noTk_snoc (a := a) hqO)
                  clear hc hqO
                  generalize O[q]?.getD 0 = y at *
                  cases hh : nx && noTk O a q with
                  | false =>
                    have HE : Hid ((nx && noTk O a (q + 1)) = false) := Lib.hid (by rw [HSQ.out, ← Bool.and_assoc, hh]; rfl)
                    clear hh HSQ
                    go_wp2_with fail
                    go_round
                    case rel => exact ⟨q + 1, by omega, by go_num, by rw [HE.out]⟩
                    case measure => simp [intOf]; omega
                  | true =>
                    have HE : Hid ((nx && noTk O a (q + 1)) = decide (y ≠ a)) := Lib.hid (by rw [HSQ.out, ← Bool.and_assoc, hh]; rfl)
                    clear hh HSQ
                    have hyb : ((y : Int) != (a : Int)) = decide (y ≠ a) := by rw [Bool.eq_iff_iff]; simp; omega
                    generalize decide (y ≠ a) = d at *
                    go_wp2_with fail
                    go_round
                    case rel => exact ⟨q + 1, by omega, by go_num, by rw [HE.out]⟩
                    case measure => simp [intOf]; omega
                · obtain rfl : q = k := by omega
                  have HNN : Hid ((nx && noTk O a q) = decide (a = (domC l root m)[q]?.getD 0)) := Lib.hid (by rw [← HNK.out, HNT.out, HOL.out])
                  rw [HNN.out]
                  by_cases haC : a = (domC l root m)[q]?.getD 0
                  · have HTK := Lib.hid (take_snoc (domC l root m) 0 q HKC.out)
                    rw [← haC] at HTK
                    have hd : decide (a = (domC l root m)[q]?.getD 0) = true := by simp [haC]
                    rw [hd]
                    have hsz6 : w2.heap.size ≤ w6.heap.size := HB6.out.size
                    clear haC hd
                    go_wp2_with (at_builtin; refine wpList_push elInt w6 _ _ w2.heap.size A3 q c3 _ _ HO6.out rfl hsz6 (by omega) (by omega) rfl rfl rfl rfl ?_; intro A' c' w7 hown7 hb7)
                    go_roundw
                    case rel => exact ⟨q + 1, A', c', by omega, rfl, Lib.hid (by rw [HTK.out, HO.out]; simpa [nv] using hown7), Lib.hid (HB6.out.trans hb7)⟩
                    case measure => simp [slN]; omega
                  · have hd : decide (a = (domC l root m)[q]?.getD 0) = false := by simp [haC]
                    rw [hd]
                    have HNO := Lib.hid (HNX.out haC)
                    clear haC hd
                    go_wp2_with fail
                    go_roundw
                    case rel => exact ⟨t + 1, by omega, by go_num, rfl, HNO, HO6, HB6⟩
                    case measure => simp [intOf]; omega
        · exfalso
          obtain rfl : t = K := by omega
          have hmem := (HPM.out _).1 (List.getElem_mem HKC.out)
          obtain ⟨j, hj, he⟩ := List.mem_iff_getElem.1 hmem
          refine hno.out j (by omega) ?_
          simp [hj, HKC.out, he]
    · obtain rfl : k = K := by omega
      have hfin := hown.out
      rw [List.take_of_length_le (by omega)] at hfin
      have HF := Lib.hid (own_base hfin HB2.out.size)
      have HBE := Lib.hid (below_then HB2.out hbw.out)
      clear hfin hown hbw
      go_wp2_with fail
      go_ret
      exact ⟨_, _, ret_slice hCL.symm, by rw [hCL]; exact HF.out, HBE.out⟩
end Go.Proofs.YtonmkmghpiagjaaDoor
