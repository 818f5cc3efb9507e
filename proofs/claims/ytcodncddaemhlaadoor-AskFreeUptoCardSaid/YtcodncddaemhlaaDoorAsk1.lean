/- Contracts: ask.count, the reference's AskSize. An ask as it lies, of at most 2^60 parts. -/
import Derived.Test.YtcodncddaemhlaaDoorAskV
namespace Go.Proofs.YtcodncddaemhlaaDoor
open Go.RowKit

def CntPost (v : Nat) (w : World) (e : Ending) (w' : World) : Prop := e = .returned (.int .i64 (v : Int)) ∧ Below w.heap.size w w'
set_option maxRecDepth 100000 in
set_option maxHeartbeats 2000000 in
theorem aCount_any : ∀ (x : AskT) (A : Option Addr) (c : Nat) (w : World), AskAt w x A c → x.X.length ≤ 9223372036854775807 → sizeA x ≤ 1152921504606846976 → Calls Tryd.prog 24 #[askV x A c] w (CntPost (sizeA x) w) := by
  refine askT_ind fun k s n X ih A c w hA hm hs => ?_
  have HIH := Lib.hid ih
  have HA := Lib.hid hA
  have HSZ := Lib.hid (sizeA_mk k s n X)
  rw [HSZ.out] at hs ⊢
  have HS := Lib.hid hs
  obtain ⟨y, hy⟩ := boxA_new w (.int .i64 k) (.string ⟨s.toArray⟩) (.int .i64 n) (.slice A X.length c) 24
  have Y := Lib.hid y
  have HY := Lib.hid hy
  have hm' : X.length ≤ 9223372036854775807 := hm
  clear ih hA hs hm y hy
  unfold askV
  simp only [AskT.kind, AskT.name, AskT.n, AskT.X]
  generalize hbs : (⟨s.toArray⟩ : ByteArray) = bs at *
  clear hbs
  go_enter Tryd.func24, Tryd.ntmps24
  go_upto_region 1 with fail
  generalize w.alloc (.cells #[.int .i64 k, .string bs, .int .i64 n, .slice A X.length c] 24) = w0 at *
  obtain ⟨y1, y2, y3, y4⟩ := Y.out
  go_wp2_with fail
  go_loopw [3, 5, 9] (fun v _ i wr => ∃ (j t : Nat), i = .int .i64 (j : Int) ∧ j ≤ X.length ∧ v = .int .i64 (t : Int) ∧ Hid (t = 1 + ((X.map sizeA).take j).sum) ∧ Hid (Below w.heap.size w wr)) (fun _ _ i _ => X.length - (intOf i).toNat)
  case atStart => exact ⟨0, 1, rfl, by omega, rfl, Lib.hid (by simp), HY⟩
  case round =>
    obtain ⟨j, t, rfl, hj, rfl, HT, HB⟩ := hrel
    by_cases hlt : j < X.length
    · obtain ⟨x, hx⟩ : ∃ x, X[j]? = some x := ⟨_, List.getElem?_eq_getElem hlt⟩
      obtain ⟨b, off, A', c', rfl, e1, e2, e3, e4, hch⟩ := AskAt.child (AskAt.keep HB.out _ _ _ HA.out) hx
      have hms : (X.map sizeA)[j]? = some (sizeA x) := by rw [List.getElem?_map, hx]; rfl
      have h1 := sum_take_succ hms
      have h2 := sum_take_le (X.map sizeA) (j + 1)
      have h3 := HS.out
      have HT2 : Hid (t + sizeA x = 1 + ((X.map sizeA).take (j + 1)).sum) := Lib.hid (by rw [h1, HT.out]; omega)
      have HM : Hid (t + sizeA x ≤ 1152921504606846976) := Lib.hid (by rw [HT2.out]; omega)
      have HXX : Hid (x.X.length ≤ 9223372036854775807) := Lib.hid (by have h4 := HM.out; have := kids_size x; omega)
      obtain ⟨z, hz⟩ := boxA_new wr (.int .i64 x.kind) (.string ⟨x.name.toArray⟩) (.int .i64 x.n) (.slice A' x.X.length c') 24
      have Z := Lib.hid z
      have HZ := Lib.hid (below_newA HB.out hz)
      have HC := Lib.hid (HIH.out x (List.mem_of_getElem? hx) A' c' _ (AskAt.keep hz _ _ _ hch) HXX.out (by have := HM.out; omega))
      unfold askV CntPost at HC
      have hj1 : (j : Int) < (X.length : Int) := by omega
      clear hx hch hms h1 h2 h3 z hz
      generalize hbx : (⟨x.name.toArray⟩ : ByteArray) = bx at *
      clear hbx
      generalize x.kind = xk at *
      generalize x.n = xn at *
      generalize x.X.length = xm at *
      generalize sizeA x = xs at *
      go_upto_region 5 with fail
      generalize wr.alloc (.cells #[.int .i64 xk, .string bx, .int .i64 xn, .slice A' xm c'] 24) = w1 at *
      obtain ⟨z1, z2, z3, z4⟩ := Z.out
      have hm1 := HM.out
      go_wp2_with fail
      refine HC.out.mono ?_
      rintro e w2 ⟨rfl, hb2⟩
      have HB2 := Lib.hid (below_newA HZ.out hb2)
      clear hb2 z1 z2 z3 z4
      go_wp2_with fail
      exact ⟨⟨j + 1, t + xs, rfl, by omega, rfl, HT2, HB2⟩, measA hlt⟩
    · obtain rfl : j = X.length := by omega
      have HE : Hid ((t : Int) = ((1 + (X.map sizeA).sum : Nat) : Int)) := Lib.hid (by rw [HT.out, List.take_of_length_le (by simp)])
      go_wp2_with fail
      go_ret
      exact ⟨ret_int HE.out, HB.out⟩
set_option maxRecDepth 100000 in
set_option maxHeartbeats 2000000 in
theorem rSize_any : ∀ (x : AskT) (A : Option Addr) (c : Nat) (w : World), AskAt w x A c → x.X.length ≤ 9223372036854775807 → sizeA x ≤ 1152921504606846976 → Calls Tryd.prog 10 #[askV x A c] w (CntPost (sizeA x) w) := by
  refine askT_ind fun k s n X ih A c w hA hm hs => ?_
  have HIH := Lib.hid ih
  have HA := Lib.hid hA
  have HSZ := Lib.hid (sizeA_mk k s n X)
  rw [HSZ.out] at hs ⊢
  have HS := Lib.hid hs
  obtain ⟨y, hy⟩ := boxA_new w (.int .i64 k) (.string ⟨s.toArray⟩) (.int .i64 n) (.slice A X.length c) 24
  have Y := Lib.hid y
  have HY := Lib.hid hy
  have hm' : X.length ≤ 9223372036854775807 := hm
  clear ih hA hs hm y hy
  unfold askV
  simp only [AskT.kind, AskT.name, AskT.n, AskT.X]
  generalize hbs : (⟨s.toArray⟩ : ByteArray) = bs at *
  clear hbs
  go_enter Tryd.func10, Tryd.ntmps10
  go_upto_region 1 with fail
  generalize w.alloc (.cells #[.int .i64 k, .string bs, .int .i64 n, .slice A X.length c] 24) = w0 at *
  obtain ⟨y1, y2, y3, y4⟩ := Y.out
  go_wp2_with fail
  go_loopw [3, 5, 9] (fun v _ i wr => ∃ (j t : Nat), i = .int .i64 (j : Int) ∧ j ≤ X.length ∧ v = .int .i64 (t : Int) ∧ Hid (t = 1 + ((X.map sizeA).take j).sum) ∧ Hid (Below w.heap.size w wr)) (fun _ _ i _ => X.length - (intOf i).toNat)
  case atStart => exact ⟨0, 1, rfl, by omega, rfl, Lib.hid (by simp), HY⟩
  case round =>
    obtain ⟨j, t, rfl, hj, rfl, HT, HB⟩ := hrel
    by_cases hlt : j < X.length
    · obtain ⟨x, hx⟩ : ∃ x, X[j]? = some x := ⟨_, List.getElem?_eq_getElem hlt⟩
      obtain ⟨b, off, A', c', rfl, e1, e2, e3, e4, hch⟩ := AskAt.child (AskAt.keep HB.out _ _ _ HA.out) hx
      have hms : (X.map sizeA)[j]? = some (sizeA x) := by rw [List.getElem?_map, hx]; rfl
      have h1 := sum_take_succ hms
      have h2 := sum_take_le (X.map sizeA) (j + 1)
      have h3 := HS.out
      have HT2 : Hid (t + sizeA x = 1 + ((X.map sizeA).take (j + 1)).sum) := Lib.hid (by rw [h1, HT.out]; omega)
      have HM : Hid (t + sizeA x ≤ 1152921504606846976) := Lib.hid (by rw [HT2.out]; omega)
      have HXX : Hid (x.X.length ≤ 9223372036854775807) := Lib.hid (by have h4 := HM.out; have := kids_size x; omega)
      obtain ⟨z, hz⟩ := boxA_new wr (.int .i64 x.kind) (.string ⟨x.name.toArray⟩) (.int .i64 x.n) (.slice A' x.X.length c') 24
      have Z := Lib.hid z
      have HZ := Lib.hid (below_newA HB.out hz)
      have HC := Lib.hid (HIH.out x (List.mem_of_getElem? hx) A' c' _ (AskAt.keep hz _ _ _ hch) HXX.out (by have := HM.out; omega))
      unfold askV CntPost at HC
      have hj1 : (j : Int) < (X.length : Int) := by omega
      clear hx hch hms h1 h2 h3 z hz
      generalize hbx : (⟨x.name.toArray⟩ : ByteArray) = bx at *
      clear hbx
      generalize x.kind = xk at *
      generalize x.n = xn at *
      generalize x.X.length = xm at *
      generalize sizeA x = xs at *
      go_upto_region 5 with fail
      generalize wr.alloc (.cells #[.int .i64 xk, .string bx, .int .i64 xn, .slice A' xm c'] 24) = w1 at *
      obtain ⟨z1, z2, z3, z4⟩ := Z.out
      have hm1 := HM.out
      go_wp2_with fail
      refine HC.out.mono ?_
      rintro e w2 ⟨rfl, hb2⟩
      have HB2 := Lib.hid (below_newA HZ.out hb2)
      clear hb2 z1 z2 z3 z4
      go_wp2_with fail
      exact ⟨⟨j + 1, t + xs, rfl, by omega, rfl, HT2, HB2⟩, measA hlt⟩
    · obtain rfl : j = X.length := by omega
      have HE : Hid ((t : Int) = ((1 + (X.map sizeA).sum : Nat) : Int)) := Lib.hid (by rw [HT.out, List.take_of_length_le (by simp)])
      go_wp2_with fail
      go_ret
      exact ⟨ret_int HE.out, HB.out⟩
end Go.Proofs.YtcodncddaemhlaaDoor
