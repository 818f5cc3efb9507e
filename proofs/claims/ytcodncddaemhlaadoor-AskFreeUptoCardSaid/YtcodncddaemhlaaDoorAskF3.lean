/- Contracts: ask.Free; the reference's AskFault. What is asked is of at most 2^20 bytes in its names. -/
import Derived.Test.YtcodncddaemhlaaDoorAskF1
import Derived.Test.YtcodncddaemhlaaDoorAsk2
import Derived.Test.YtcodncddaemhlaaDoorName7
namespace Go.Proofs.YtcodncddaemhlaaDoor
open Go.RowKit

def freeL (x : AskT) : List (List UInt8) := if askE x = 0 then rising (freeA x []) else []
def FreeTop (x : AskT) (w : World) (e : Ending) (w' : World) : Prop :=
  ∃ A c, e = .returned (.tuple #[.slice A (freeL x).length c, .int .i64 ((askE x : Nat) : Int)]) ∧ Rd w' A ((freeL x).map sv) ∧ Below w.heap.size w w'
theorem askE_ok {x : AskT} (h : askE x = 0) : sizeA x ≤ 60 ∧ faultA x = 0 := by
  unfold askE at h
  split at h
  · cases h
  · exact ⟨by omega, h⟩
set_option maxRecDepth 100000 in
set_option maxHeartbeats 2000000 in
theorem aFreeTop_any (x : AskT) (A : Option Addr) (c : Nat) (w : World) (hA : AskAt w x A c) (hok : AskOk x) (hs : sizeA x ≤ 1152921504606846976) (hF : FTab w) : Calls Tryd.prog 11 #[askV x A c] w (FreeTop x w) := by
  have hm' : x.X.length ≤ 9223372036854775807 := by have := kids_size x; omega
  obtain ⟨y, hy⟩ := boxA_new w (.int .i64 x.kind) (.string ⟨x.name.toArray⟩) (.int .i64 x.n) (.slice A x.X.length c) 24
  have Y := Lib.hid y
  have HY := Lib.hid hy
  have CK := Lib.hid (aCheck_any x A c _ (AskAt.keep hy _ _ _ hA) hok hs (hF.below hy))
  have HA := Lib.hid hA
  have HL0 : Hid (askE x ≠ 0 → freeL x = []) := Lib.hid (fun h => if_neg h)
  have HL1 : Hid (askE x = 0 → freeL x = rising (freeA x [])) := Lib.hid (fun h => if_pos h)
  have HFR := Lib.hid (fun (h : askE x = 0) W (hb : Below w.heap.size w W) => aFree_any w x A c hA W hb (.slice none 0 0) [] none 0 0 [] (.inl ⟨rfl, rfl⟩) (World.ownsRow_nil _ _ _ _) rfl (by have := (askE_ok h).1; simp; omega) (by have := (askE_ok h).1; omega))
  have HSF : Hid (askE x = 0 → (freeA x []).length ≤ 60) := Lib.hid (fun h => Nat.le_trans (sizeA_free x []) (askE_ok h).1)
  clear hA hok hs hF y hy
  unfold askV at *
  unfold CntPost at CK
  generalize hbs : (⟨x.name.toArray⟩ : ByteArray) = bs at *
  clear hbs
  unfold FreeTop
  generalize freeL x = FL at *
  generalize askE x = E at *
  generalize x.kind = xk at *
  generalize x.n = xn at *
  generalize x.X.length = xm at *
  go_enter Tryd.func11, Tryd.ntmps11
  go_upto_region 1 with fail
  generalize w.alloc (.cells #[.int .i64 xk, .string bs, .int .i64 xn, .slice A xm c] 24) = w1 at *
  obtain ⟨y1, y2, y3, y4⟩ := Y.out
  go_wp2_with fail
  refine CK.out.mono ?_
  rintro e w2 ⟨rfl, hb2⟩
  have HB2 := Lib.hid (below_then HY.out hb2)
  have Y2 := Lib.hid (Y.out.below hb2)
  clear hb2 y1 y2 y3 y4
  by_cases h0 : E = 0
  · have HC := Lib.hid (HFR.out h0 w2 HB2.out)
    have HSF1 := Lib.hid (HSF.out h0)
    have HL := Lib.hid (HL1.out h0)
    subst h0
    unfold FreePost at HC
    rw [List.nil_append] at HC
    obtain ⟨y1, y2, y3, y4⟩ := Y2.out
    generalize freeA x [] = F at *
    go_wp2_with fail
    refine HC.out.mono ?_
    rintro e w3 ⟨A3, c3, rfl, ho3, hf3⟩
    have HO3 := Lib.hid ho3
    have HB3 := Lib.hid (hf3.below HB2.out (fun k hk => by cases hk))
    clear ho3 hf3 y1 y2 y3 y4
    go_wp2_with fail
    refine (values_any _ _ _ _).mono ?_
    rintro e w4 ⟨rfl, hw4⟩
    have HB4 : Hid (Below w.heap.size w w4) := Lib.hid (by rw [hw4]; exact below_new HB3.out _)
    have hc4 : w4.cell? ⟨w3.heap.size, 0, none⟩ = some (.slice A3 F.length c3) := by rw [hw4, World.cell?_alloc_at _ _ _ _ rfl]; rfl
    have hlt4 : w3.heap.size < w4.heap.size := lt_of_cell' hc4
    have hT4 : Texts w4.heap.size w4 (.slice A3 F.length c3) F := Texts.of_rd ((Rd.of_own HO3.out).below (by rw [hw4]; exact below_new (Below.refl _ _) _)) rfl
    have HSO := Lib.hid (sorted_any F w4 (by have := HSF1.out; omega) hlt4 hc4 hT4)
    clear hw4 hc4 hlt4 hT4
    generalize w3.heap.size = B3 at *
    go_wp2_with fail
    refine HSO.out.mono ?_
    rintro e w5 ⟨A5, c5, rfl, ho5, hb5⟩
    have HB5 := Lib.hid (below_then HB4.out hb5)
    have HCO := Lib.hid (compact_own F _ w5 ho5 rfl (by have := HSF1.out; omega) hb5.size)
    have HSZ5 : Hid (w.heap.size ≤ w4.heap.size) := Lib.hid HB4.out.size
    clear ho5 hb5
    go_wp2_with fail
    refine HCO.out.mono ?_
    rintro e w6 ⟨A6, c6, rfl, hr6, hb6⟩
    have HR6 := Lib.hid hr6
    have HB6 : Hid (Below w.heap.size w w6) := Lib.hid (HB5.out.trans (hb6.mono HSZ5.out))
    clear hr6 hb6
    generalize hrf : rising F = RF at *
    have HRF : Hid (FL = RF) := Lib.hid (by rw [HL.out])
    clear hrf
    go_wp2_with fail
    go_ret2
    exact ⟨A6, c6, by rw [HRF.out]; rfl, by rw [HRF.out]; exact HR6.out, HB6.out⟩
  · have hne : (((E : Nat) : Int) != 0) = true := by simp; omega
    have HL : Hid (FL = []) := Lib.hid (HL0.out h0)
    clear h0
    go_wp2_with fail
    go_ret2
    exact ⟨none, 0, by rw [HL.out]; rfl, by rw [HL.out]; exact Rd.nil_ _ _, HB2.out⟩
end Go.Proofs.YtcodncddaemhlaaDoor
