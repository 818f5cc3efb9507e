/- Contracts: glob.match. -/
import Derived.Test.YtjdfmmjadjggjaaGlob7
namespace Go.Proofs.Ytjdfmmjadjggjaa
open Go.RowKit

def natsG (s : List UInt8) : List Nat := s.map (·.toNat)
theorem natsG_at {s : List UInt8} {i : Nat} {c : UInt8} (h : s[i]? = some c) : (natsG s)[i]?.getD 0 = c.toNat := by unfold natsG; rw [List.getElem?_map, h]; rfl
/-- Do the pieces stand for the text? -/
def fitG (M : List GQ) (s : List UInt8) : Bool := rf (M.map (·.p)) (natsG s) M.length s.length
set_option maxRecDepth 100000 in
set_option maxHeartbeats 2000000 in
theorem pcMatch_any (A : Option Addr) (n c : Nat) (P : List PW) (M : List GQ) (s : List UInt8) (w : World) (hP : Pws P M) (hn : P.length = n) (hn6 : n ≤ 60) (hr : Rd w A (pcs P)) (hl : s.length ≤ 9223372036854775807) :
    Calls Try.prog 41 #[.slice A n c, .string ⟨s.toArray⟩] w fun e w' => e = .returned (.bool (fitG M s)) ∧ Below w.heap.size w w' := by
  have HS := Lib.hid (strIs s)
  generalize (⟨s.toArray⟩ : ByteArray) = b at *
  have hsz : b.size = s.length := HS.out.size
  have HSZ := Lib.hid hsz
  have hszb : b.size ≤ 9223372036854775807 := by omega
  have HP := Lib.hid hP
  have HN := Lib.hid hn
  have HML : Hid (M.length = n) := Lib.hid (by rw [← hP.1]; exact hn)
  have hlen : (M.map (·.p)).length = n := by rw [List.length_map]; exact HML.out
  have HLEN := Lib.hid hlen
  have HR := Lib.hid (show Rd (w.alloc (.cells #[.slice A n c] 71)) A (pcs P) from hr.alloc _)
  have HC := Lib.hid (show (w.alloc (.cells #[.slice A n c] 71)).cell? ⟨w.heap.size, 0, none⟩ = some (.slice A n c) by rw [World.cell?_alloc_at _ _ _ _ rfl]; rfl)
  have HB := Lib.hid (below_new (Below.refl w.heap.size w) (.cells #[.slice A n c] 71))
  have hmf : ∀ (fn : Fn) (first cap : Array Value) (w : World), (Instr.makeFunc fn first cap).run Try.prog w = .ok (.func fn first cap) w := fun _ _ _ _ => rfl
  clear hP hn hr hsz hlen hl
  go_enter Try.func41, Try.ntmps41
  go_upto_region 1 with fail
  generalize w.alloc (.cells #[.slice A n c] 71) = w1 at *
  have HWB : Hid (w.heap.size < w1.heap.size) := Lib.hid (lt_of_cell' HC.out)
  go_wp2_with fail
  have hc0 := HC.out
  refine (pcSkip_any A n c w.heap.size P M 1 (fun k => k == 0) w1 HP.out HN.out hn6 HR.out hc0 (bt_one n)).mono ?_
  rintro e w2 ⟨X, rfl, hX, hb2⟩
  have HX := Lib.hid (bt_start (s := natsG s) hX)
  have HB2 := Lib.hid hb2
  clear hX hb2
  go_wp2_with fail
  go_loopw [6, 16] (fun x y wr => ∃ (X i : Nat), x = .int .u64 (X : Int) ∧ y = .int .i64 (i : Int) ∧ i ≤ b.size ∧ Hid (Bt X n (fun k => bf (M.map (·.p)) (natsG s) k i)) ∧ Hid (Below w1.heap.size w1 wr)) (fun _ y _ => b.size - (intOf y).toNat)
  case atStart => exact ⟨X, 0, rfl, rfl, by omega, HX, HB2⟩
  case round =>
    clear HX HB2 hc0
    obtain ⟨X, i, rfl, rfl, hi, HX, HBW⟩ := hrel
    have hcw := pc_keep HC.out HBW.out
    by_cases hlt : i < b.size
    · have HSI := Lib.hid (natsG_at (HS.out.at_ hlt))
      have i0 : (i : Int) < (b.size : Int) := by omega
      obtain ⟨wo, hwo⟩ : ∃ wo : World, wo = wr := ⟨_, rfl⟩
      subst hwo
      go_wp2_with fail
      go_loopw [8, 21] (fun x y wr => ∃ (Z k : Nat), x = .int .u64 (Z : Int) ∧ y = .int .i64 (k : Int) ∧ k ≤ n ∧ Hid (Bt Z n (ntF (M.map (·.p)) (fun k => bf (M.map (·.p)) (natsG s) k i) ((natsG s)[i]?.getD 0) k)) ∧ Hid (Below w1.heap.size w1 wr)) (fun _ y _ => 300 - (intOf y).toNat)
      case atStart => exact ⟨0, 0, rfl, rfl, by omega, Lib.hid (by rw [ntF_zero]; exact bt_none n), HBW⟩
      case round =>
        clear HBW hcw
        obtain ⟨Z, k, rfl, rfl, hk, HZ, HBW⟩ := hrel
        have hcw := pc_keep HC.out HBW.out
        by_cases hkn : k < n
        · obtain ⟨an, x0, x1, x2, x3, hp, han, hws⟩ := HP.out.get (i := k) (by rw [HN.out]; exact hkn)
          obtain ⟨bA, off, rfl, hbl, c0, c1, c2, c3, c4⟩ := Rd.piece HP.out.four HR.out hp
          have k0 := pc_keep c0 HBW.out
          have k1 := pc_keep c1 HBW.out
          have k2 := pc_keep c2 HBW.out
          have k3 := pc_keep c3 HBW.out
          have k4 := pc_keep c4 HBW.out
          have HAN := Lib.hid han
          have HWS := Lib.hid hws
          have HBI := HX.out.at_ k
          rw [decide_eq_true (by omega : k ≤ n), Bool.true_and] at HBI
          have HBI := Lib.hid HBI
          have HXV := Lib.hid (bit_val (X := X) k HX.out.b64)
          clear hp han hws c0 c1 c2 c3 c4 hbl
          cases hb : X.testBit k with
          | false =>
            have hz : bits .and .u64 ((X : Int) / 2 ^ k) 1 = 0 := by rw [HXV.out, hb]; rfl
            have HB0 : Hid (bf (M.map (·.p)) (natsG s) k i = false) := Lib.hid (by rw [← HBI.out]; exact hb)
            clear hb
            go_wp2_with fail
            exact ⟨⟨Z, k + 1, rfl, rfl, by omega, Lib.hid (bt_ext HZ.out fun j _ => ntF_stay (A := fun k => bf (M.map (·.p)) (natsG s) k i) (k := k) (.inl HB0.out) j), Lib.hid (below_new HBW.out _)⟩, measG (by omega)⟩
          | true =>
            have hz : bits .and .u64 ((X : Int) / 2 ^ k) 1 = 1 := by rw [HXV.out, hb]; rfl
            have HB0 : Hid (bf (M.map (·.p)) (natsG s) k i = true) := Lib.hid (by rw [← HBI.out]; exact hb)
            clear hb
            cases an with
            | true =>
              have HOR := Lib.hid (or_val (X := Z) (i := k) HZ.out.b64 (by omega))
              go_wp2_with fail
              rw [HOR.out]
              exact ⟨⟨_, k + 1, rfl, rfl, by omega, Lib.hid (bt_ext (bt_set HZ.out hk (by omega)) fun j _ => ntF_here (A := fun k => bf (M.map (·.p)) (natsG s) k i) (k := k) HB0.out HAN.out.symm j), Lib.hid (below_new HBW.out _)⟩, measG (by omega)⟩
            | false =>
              have HOR := Lib.hid (or_val (X := Z) (i := k + 1) HZ.out.b64 (by omega))
              have HC13 := Lib.hid (fun W => pcHas_any false x0 x1 x2 x3 _ HWS.out (b[i].toNat) (b[i].toNat_lt) W)
              have HBK0 := Lib.hid (show Blk (wr.alloc (.cells #[.bool false, .int .u64 (x0 : Int), .int .u64 (x1 : Int), .int .u64 (x2 : Int), .int .u64 (x3 : Int)] 117)) wr.heap.size 117 (pieceL false [x0, x1, x2, x3]) from Blk.new wr _ _)
              have B4 := below_new HBW.out (.cells #[.bool false, .int .u64 (x0 : Int), .int .u64 (x1 : Int), .int .u64 (x2 : Int), .int .u64 (x3 : Int)] 117)
              unfold pcv at HC13
              go_upto_region 13 with fail
              generalize wr.alloc (.cells #[.bool false, .int .u64 (x0 : Int), .int .u64 (x1 : Int), .int .u64 (x2 : Int), .int .u64 (x3 : Int)] 117) = w4 at *
              obtain ⟨c0, c1, c2, c3, c4⟩ := Blk.cells5 HBK0.out
              cases hs : setAt (M.map (·.p)) k b[i].toNat with
              | true =>
                simp only [hs] at HC13
                have HST : Hid (setAt (M.map (·.p)) k ((natsG s)[i]?.getD 0) = true) := Lib.hid (by rw [HSI.out]; exact hs)
                clear hs
                go_region_held3 (fun W => W.cell? ⟨wr.heap.size, 0, none⟩ = some (.bool false) ∧ W.cell? ⟨wr.heap.size, 1, none⟩ = some (.int .u64 (x0 : Int)) ∧ W.cell? ⟨wr.heap.size, 2, none⟩ = some (.int .u64 (x1 : Int)) ∧ W.cell? ⟨wr.heap.size, 3, none⟩ = some (.int .u64 (x2 : Int)) ∧ W.cell? ⟨wr.heap.size, 4, none⟩ = some (.int .u64 (x3 : Int)) ∧ Below w1.heap.size w1 W) ((refine ⟨?_, ?_, ?_, ?_, ?_, ?_⟩ <;> first | assumption | exact Below.drew (by assumption))) ((go_at_call 68; refine (HC13.out _).mono ?_; rintro e w5 ⟨rfl, hb5⟩; have B5 := below_then (Below.drew B4) hb5; have y0 := pc_keep (w := w4.drew) c0 hb5; have y1 := pc_keep (w := w4.drew) c1 hb5; have y2 := pc_keep (w := w4.drew) c2 hb5; have y3 := pc_keep (w := w4.drew) c3 hb5; have y4 := pc_keep (w := w4.drew) c4 hb5))
                have HBX := Lib.hid B5
                go_wp2_with fail
                rw [HOR.out]
                exact ⟨⟨_, k + 1, rfl, rfl, by omega, Lib.hid (bt_ext (bt_set HZ.out (i := k + 1) (by omega) (by omega)) fun j _ => ntF_on (A := fun k => bf (M.map (·.p)) (natsG s) k i) (k := k) HB0.out HAN.out.symm HST.out j), HBX⟩, measG (by omega)⟩
              | false =>
                simp only [hs] at HC13
                have HST : Hid (setAt (M.map (·.p)) k ((natsG s)[i]?.getD 0) = false) := Lib.hid (by rw [HSI.out]; exact hs)
                clear hs
                go_region_held3 (fun W => W.cell? ⟨wr.heap.size, 0, none⟩ = some (.bool false) ∧ W.cell? ⟨wr.heap.size, 1, none⟩ = some (.int .u64 (x0 : Int)) ∧ W.cell? ⟨wr.heap.size, 2, none⟩ = some (.int .u64 (x1 : Int)) ∧ W.cell? ⟨wr.heap.size, 3, none⟩ = some (.int .u64 (x2 : Int)) ∧ W.cell? ⟨wr.heap.size, 4, none⟩ = some (.int .u64 (x3 : Int)) ∧ Below w1.heap.size w1 W) ((refine ⟨?_, ?_, ?_, ?_, ?_, ?_⟩ <;> first | assumption | exact Below.drew (by assumption))) ((go_at_call 68; refine (HC13.out _).mono ?_; rintro e w5 ⟨rfl, hb5⟩; have B5 := below_then (Below.drew B4) hb5; have y0 := pc_keep (w := w4.drew) c0 hb5; have y1 := pc_keep (w := w4.drew) c1 hb5; have y2 := pc_keep (w := w4.drew) c2 hb5; have y3 := pc_keep (w := w4.drew) c3 hb5; have y4 := pc_keep (w := w4.drew) c4 hb5))
                have HBX := Lib.hid B5
                go_wp2_with fail
                exact ⟨⟨Z, k + 1, rfl, rfl, by omega, Lib.hid (bt_ext HZ.out fun j _ => ntF_stay (A := fun k => bf (M.map (·.p)) (natsG s) k i) (k := k) (.inr ⟨HAN.out.symm, HST.out⟩) j), HBX⟩, measG (by omega)⟩
        · have hke : k = n := by omega
          subst hke
          go_wp2_with fail
          refine (pcSkip_any A k c w.heap.size P M Z _ wr HP.out HN.out hn6 (HR.out.below HBW.out) hcw HZ.out).mono ?_
          rintro e w6 ⟨Y, rfl, hY, hb6⟩
          have HY := Lib.hid (bt_step HLEN.out hY)
          have HB6 := Lib.hid (below_then HBW.out hb6)
          clear hY hb6
          go_wp2_with fail
          exact ⟨⟨Y, i + 1, rfl, rfl, by omega, HY, HB6⟩, by simp only [intOf]; omega⟩
    · obtain rfl : i = b.size := by omega
      have HF : Hid (X.testBit n = fitG M s) := Lib.hid (by rw [bt_last HLEN.out HX.out]; unfold fitG; rw [HML.out, HSZ.out])
      have HV : Hid ((bits .and .u64 ((X : Int) / 2 ^ n) 1 == 1) = X.testBit n) := Lib.hid (by rw [bit_val n HX.out.b64]; cases X.testBit n <;> rfl)
      go_wp2_with fail
      go_ret
      exact ⟨ret_bool (by rw [HV.out, HF.out]), below_then HB.out HBW.out⟩
end Go.Proofs.Ytjdfmmjadjggjaa
