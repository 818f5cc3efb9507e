/- Contract: the reference's FreeVars. An ask as it lies, of at most 2^22 parts. -/
import Derived.Test.YtcodncddaemhlaaDoorAskV
import Derived.Test.YtcodncddaemhlaaDoorName5
import Derived.Deep.DeepCutAuto
import Derived.Lib.RowBridge
namespace Go.Proofs.YtcodncddaemhlaaDoor
open Go.RowKit

def fvKids (k : Int) (s : List UInt8) (X : List AskT) (j : Nat) : List (List UInt8) := ((X.zipIdx.map fun x => (fvA x.1).filter fun m => decide (k ≠ 4 ∨ x.2 = 0 ∨ m ≠ s)).take j).flatten
theorem fvKids_succ {k : Int} {s : List UInt8} {X : List AskT} {j : Nat} {x : AskT} (h : X[j]? = some x) : fvKids k s X (j + 1) = fvKids k s X j ++ (fvA x).filter fun m => decide (k ≠ 4 ∨ j = 0 ∨ m ≠ s) := by
  unfold fvKids
  rw [List.take_add_one, List.flatten_append, List.getElem?_map, List.getElem?_zipIdx, h]
  simp
theorem fvKids_all {k : Int} {s : List UInt8} {X : List AskT} : fvKids k s X X.length = (X.zipIdx.map fun x => (fvA x.1).filter fun m => decide (k ≠ 4 ∨ x.2 = 0 ∨ m ≠ s)).flatten := by
  unfold fvKids
  rw [List.take_of_length_le (by simp)]
theorem rising_len (l : List (List UInt8)) : (rising l).length ≤ l.length := by
  have h := Lib.compact_length_le (l.mergeSort fun x y => decide (x ≤ y))
  have h2 : Lib.compact (l.mergeSort fun x y => decide (x ≤ y)) = rising l := compact_sorted l
  rw [h2] at h
  simpa using h
theorem fvKids_le {k : Int} {s : List UInt8} {X : List AskT} (hX : ∀ y ∈ X, (fvA y).length ≤ sizeA y) (j : Nat) : (fvKids k s X j).length ≤ ((X.map sizeA).take j).sum := by
  induction j with
  | zero => simp [fvKids]
  | succ j ih =>
    rcases Nat.lt_or_ge j X.length with h | h
    · have hx : X[j]? = some X[j] := List.getElem?_eq_getElem h
      have hs : (X.map sizeA)[j]? = some (sizeA X[j]) := by rw [List.getElem?_map, hx]; rfl
      rw [fvKids_succ hx, sum_take_succ hs, List.length_append]
      have h1 := hX X[j] (List.getElem_mem _)
      have h2 := List.length_filter_le (fun m => decide (k ≠ 4 ∨ j = 0 ∨ m ≠ s)) (fvA X[j])
      omega
    · have e1 : fvKids k s X (j + 1) = fvKids k s X j := by
        unfold fvKids
        rw [List.take_of_length_le (by simp; omega), List.take_of_length_le (by simp; omega)]
      have e2 : (X.map sizeA).take (j + 1) = (X.map sizeA).take j := by
        rw [List.take_of_length_le (by simp; omega), List.take_of_length_le (by simp; omega)]
      rw [e1, e2]
      exact ih
theorem sizeA_fv : ∀ x : AskT, (fvA x).length ≤ sizeA x := by
  refine askT_ind fun k s n X ih => ?_
  rw [fvA_mk, sizeA_mk]
  split
  · simp
  · have h1 := rising_len (X.zipIdx.map fun x => (fvA x.1).filter fun m => decide (k ≠ 4 ∨ x.2 = 0 ∨ m ≠ s)).flatten
    have h2 := fvKids_le (k := k) (s := s) ih X.length
    rw [fvKids_all, List.take_of_length_le (by simp)] at h2
    omega
theorem Rd.frel {w w' : World} {A : Option Addr} {xs : List Value} {r r' : Option Nat} (h : Rd w A xs) (hf : FRel w w' r r') (hn : ∀ b o, A = some ⟨b, o, none⟩ → some b ≠ r) : Rd w' A xs := fun h0 => by
  obtain ⟨b, off, rfl, hlt, hc⟩ := h h0
  exact ⟨b, off, rfl, Nat.lt_of_lt_of_le hlt hf.1.size, fun j u hu => hf.cell (hc j u hu) (hn b off rfl)⟩
def FVPost (l : List (List UInt8)) (w : World) (e : Ending) (w' : World) : Prop := ∃ A c, e = .returned (.slice A l.length c) ∧ Rd w' A (l.map sv) ∧ Below w.heap.size w w' ∧ NewAt w A
/-- What the inner loop holds. -/
def FvIn (w1 w2 : World) (r : Option Nat) (ol : List (List UInt8)) (v : Value) (wq : World) : Prop := ∃ A c q, v = .slice A q c ∧ ol.length = q ∧ wq.ownsRow w1.heap.size 9 1 (.slice A q c) q (ol.map sv) ∧ FRel w2 wq r (Value.slice A q c).ownBlock
set_option maxRecDepth 100000 in
set_option maxHeartbeats 4000000 in
theorem rFree_any : ∀ (x : AskT) (A : Option Addr) (c : Nat) (w : World), AskAt w x A c → sizeA x ≤ 4194304 → Calls Tryd.prog 13 #[askV x A c] w (FVPost (fvA x) w) := by
  refine askT_ind fun k s n X ih A c w hA hs => ?_
  have HIH := Lib.hid ih
  have HA := Lib.hid hA
  have HSZ := Lib.hid (sizeA_mk k s n X)
  have HS : Hid ((X.map sizeA).sum ≤ 4194304) := Lib.hid (by rw [HSZ.out] at hs; omega)
  have hm' : X.length ≤ 4194304 := by have := kids_le X; have := HS.out; omega
  have HFV := Lib.hid (fvA_mk k s n X)
  have HEQ := Lib.hid (fun m : List UInt8 => eq_sv m s)
  obtain ⟨y, hy⟩ := boxA_new w (.int .i64 k) (.string ⟨s.toArray⟩) (.int .i64 n) (.slice A X.length c) 24
  have Y := Lib.hid y
  have HY := Lib.hid hy
  clear ih hA hs y hy
  unfold askV
  simp only [AskT.kind, AskT.name, AskT.n, AskT.X]
  generalize hR : fvA (.mk k s n X) = R at *
  have HR3 : Hid (k = 3 → R = [s]) := Lib.hid (fun h => by rw [HFV.out, if_pos h])
  have HRN0 : Hid (k ≠ 3 → R = rising (fvKids k s X X.length)) := Lib.hid (fun h => by rw [HFV.out, if_neg h, fvKids_all])
  clear hR
  generalize hbs : (⟨s.toArray⟩ : ByteArray) = bs at *
  have HBS := Lib.hid hbs
  clear hbs
  go_enter Tryd.func13, Tryd.ntmps13
  go_upto_region 1 with fail
  generalize hw1 : w.alloc (.cells #[.int .i64 k, .string bs, .int .i64 n, .slice A X.length c] 24) = w1 at *
  have HZ1 : Hid (w1.heap.size = w.heap.size + 1) := Lib.hid (by rw [← hw1]; simp)
  clear hw1
  obtain ⟨y1, y2, y3, y4⟩ := Y.out
  by_cases hk3 : k = 3
  · have hk : (k == 3) = true := by simp [hk3]
    obtain rfl := HR3.out hk3
    have HRL := Lib.hid (rd_lit w1 w1.heap.size #[.string bs] 9 [.string bs] rfl rfl)
    have HBL := Lib.hid (below_then HY.out (below_new (Below.refl _ _) (.cells #[.string bs] 9)))
    have HSV : Hid ([Value.string bs] = [s].map sv) := Lib.hid (by rw [← HBS.out]; rfl)
    clear hk3
    go_wp2_with fail
    go_ret
    exact ⟨some ⟨w1.heap.size, 0, none⟩, 1, rfl, by rw [← HSV.out]; exact HRL.out, HBL.out, newAt_of (Nat.le_refl _) (by have := HZ1.out; omega)⟩
  · have hk : (k == 3) = false := by simp [hk3]
    have HRR := Lib.hid (HRN0.out hk3)
    clear hk3
    go_wp2_with fail
    go_loopw [3, 4, 5, 7, 17] (fun v3 _ _ _ i wr => ∃ (j q cO : Nat) (AO : Option Addr), i = .int .i64 (j : Int) ∧ j ≤ X.length ∧ v3 = .slice AO q cO ∧ Hid ((fvKids k s X j).length = q) ∧ Hid (wr.ownsRow w1.heap.size 9 1 (.slice AO q cO) q ((fvKids k s X j).map sv)) ∧ Hid (Below w1.heap.size w1 wr)) (fun _ _ _ _ i _ => X.length - (intOf i).toNat)
    case atStart => exact ⟨0, 0, 0, none, rfl, by omega, rfl, Lib.hid rfl, Lib.hid (World.ownsRow_nil _ _ _ _), Lib.hid (Below.refl _ _)⟩
    case round =>
      obtain ⟨j, q, cO, AO, rfl, hj, rfl, HQ, HO, HB⟩ := hrel
      by_cases hlt : j < X.length
      · obtain ⟨x, hx⟩ : ∃ x, X[j]? = some x := ⟨_, List.getElem?_eq_getElem hlt⟩
        have hat := AskAt.keep (below_then HY.out HB.out) _ _ _ HA.out
        obtain ⟨b, off, A', c', rfl, e1, e2, e3, e4, hch⟩ := AskAt.child hat hx
        have HXS : Hid (sizeA x ≤ 4194304) := Lib.hid (by
          have h1 : (X.map sizeA)[j]? = some (sizeA x) := by rw [List.getElem?_map, hx]; rfl
          have h2 := sum_take_succ h1
          have h3 := sum_take_le (X.map sizeA) (j + 1)
          have := HS.out
          omega)
        have HSU := Lib.hid (fvKids_succ (k := k) (s := s) hx)
        have HX := Lib.hid hx
        obtain ⟨u, hu⟩ := boxA_new wr (.int .i64 x.kind) (.string ⟨x.name.toArray⟩) (.int .i64 x.n) (.slice A' x.X.length c') 24
        have U := Lib.hid u
        have HU := Lib.hid hu
        have HC := Lib.hid (HIH.out x (List.mem_of_getElem? hx) A' c' _ (AskAt.keep hu _ _ _ hch) HXS.out)
        unfold askV FVPost at HC
        have hj1 : (j : Int) < (X.length : Int) := by omega
        clear hx hch hat u hu
        generalize hbx : (⟨x.name.toArray⟩ : ByteArray) = bx at *
        clear hbx
        generalize x.kind = xk at *
        generalize x.n = xn at *
        generalize x.X.length = xm at *
        go_upto_region 7 with fail
        generalize hw2 : wr.alloc (.cells #[.int .i64 xk, .string bx, .int .i64 xn, .slice (A') xm c'] 24) = w2 at *
        have HZ2 : Hid (w2.heap.size = wr.heap.size + 1) := Lib.hid (by rw [← hw2]; simp)
        clear hw2
        obtain ⟨z1, z2, z3, z4⟩ := U.out
        go_wp2_with fail
        refine HC.out.mono ?_
        rintro e w3 ⟨A2, c2, rfl, hr3, hb3, hn3⟩
        have HR3 := Lib.hid hr3
        have HO3 := Lib.hid (own_below (own_below HO.out HU.out) hb3)
        have HBW3 := Lib.hid (below_then (below_then HB.out HU.out) hb3)
        obtain ⟨r0, hr0⟩ : ∃ r0, r0 = (Value.slice AO q cO).ownBlock := ⟨_, rfl⟩
        have HNR : Hid (∀ b o, A2 = some ⟨b, o, none⟩ → some b ≠ r0) := Lib.hid (fun b o e => by rw [hr0]; exact own_ne HO.out (Nat.le_trans (by have := HZ2.out; omega) (hn3 b o e)))
        have HRO : Hid (∀ g, r0 = some g → w1.heap.size ≤ g) := Lib.hid (fun g hg => (HO.out.lt g (by rw [← hr0]; exact hg)).1)
        have HFR : Hid (FRel w3 w3 r0 (Value.slice AO q cO).ownBlock) := Lib.hid (by rw [hr0]; exact FRel.refl _ _)
        have HXL := Lib.hid (Nat.le_trans (sizeA_fv x) HXS.out)
        have HQS : Hid (q + (fvA x).length ≤ 4194304) := Lib.hid (by
          have h1 : (X.map sizeA)[j]? = some (sizeA x) := by rw [List.getElem?_map, HX.out]; rfl
          have h2 := sum_take_succ h1
          have h3 := sum_take_le (X.map sizeA) (j + 1)
          have h4 := fvKids_le (k := k) (s := s) (fun y _ => sizeA_fv y) j (X := X)
          have := sizeA_fv x
          have := HQ.out
          have := HS.out
          omega)
        clear hr0 hb3 hr3 hn3 z1 z2 z3 z4 y1 y2 y3 y4 e1 e2 e3 e4
        generalize fvA x = F at *
        generalize fvKids k s X j = K at *
        have hfl : F.length ≤ 4194304 := by have := HQS.out; omega
        go_wp2_with fail
        go_loopw [3, 7, 25] (fun v3 _ i wq => ∃ t : Nat, i = .int .i64 (t : Int) ∧ t ≤ F.length ∧ Hid (FvIn w1 w3 r0 (K ++ (F.take t).filter fun m => decide (k ≠ 4 ∨ j = 0 ∨ m ≠ s)) v3 wq)) (fun _ _ i _ => F.length - (intOf i).toNat)
        case atStart => exact ⟨0, rfl, by omega, Lib.hid ⟨AO, cO, q, rfl, by simpa using HQ.out, by simpa using HO3.out, HFR.out⟩⟩
        case round =>
          obtain ⟨t, rfl, ht, HI⟩ := hrel
          obtain ⟨A3, c3, q3, rfl, hq3, ho3, hf3⟩ := HI.out
          have HQ3 := Lib.hid hq3
          have HO4 := Lib.hid ho3
          have HF3 := Lib.hid hf3
          have HB3 := Lib.hid (hf3.below HBW3.out HRO.out)
          clear hq3 ho3 hf3 HI
          by_cases hlt2 : t < F.length
          · obtain ⟨nm, hnm⟩ : ∃ nm, F[t]? = some nm := ⟨_, List.getElem?_eq_getElem hlt2⟩
            obtain ⟨b2, o2, rfl, hc2⟩ := (HR3.out.frel HF3.out HNR.out).scell hnm
            have HNM := Lib.hid hnm
            have HE := HEQ.out nm
            have HSV : Hid (sv nm = .string ⟨nm.toArray⟩) := Lib.hid rfl
            generalize (⟨nm.toArray⟩ : ByteArray) = bm at *
            have HEM := Lib.hid HE
            have HTS : Hid ((F.take (t + 1)).filter (fun m => decide (k ≠ 4 ∨ j = 0 ∨ m ≠ s)) = (F.take t).filter (fun m => decide (k ≠ 4 ∨ j = 0 ∨ m ≠ s)) ++ if decide (k ≠ 4 ∨ j = 0 ∨ nm ≠ s) = true then [nm] else []) := Lib.hid (by
              rw [List.take_add_one, hnm, List.filter_append]
              congr 1
              simp only [Option.toList_some, List.filter_cons, List.filter_nil])
            have ht1 : (t : Int) < (F.length : Int) := by omega
            have HSZ4 : Hid (q3 + 1 ≤ 8388608) := Lib.hid (by
              have h1 := HQ3.out
              rw [List.length_append] at h1
              have h2 := List.length_filter_le (fun m => decide (k ≠ 4 ∨ j = 0 ∨ m ≠ s)) (F.take t)
              have h3 := List.length_take_le t F
              have := HQS.out
              have := HQ.out
              omega)
            generalize hpk : decide (k ≠ 4 ∨ j = 0 ∨ nm ≠ s) = pk at *
            have HPK := Lib.hid hpk
            clear hpk hnm HE
            obtain ⟨y1, y2, y3, y4⟩ := (Y.out.below HB3.out)
            go_upto_region 10 with fail
            go_cut [41] (fun s41 wx => s41 = .bool pk ∧ wx = wr)
            case first =>
              by_cases h4 : k = 4
              · have k4 : (k != 4) = false := by simp [h4]
                by_cases hj0 : j = 0
                · have j4 : ((j : Int) == 0) = true := by simp [hj0]
                  have HV : Hid (true = pk) := Lib.hid (by rw [← HPK.out]; simp [hj0])
                  clear h4 hj0
                  go_wp2_with fail
                  go_meet
                  exact ⟨congrArg Value.bool HV.out, rfl⟩
                · have j4 : ((j : Int) == 0) = false := by simp [hj0]
                  have HV : Hid ((bm.toList != bs.toList) = pk) := Lib.hid (by rw [← HPK.out, bne, HEM.out]; simp [hj0, h4])
                  clear h4 hj0
                  go_wp2_with fail
                  go_meet
                  exact ⟨congrArg Value.bool HV.out, rfl⟩
              · have k4 : (k != 4) = true := by simp [h4]
                have HV : Hid (true = pk) := Lib.hid (by rw [← HPK.out]; simp [h4])
                clear h4
                go_wp2_with fail
                go_meet
                exact ⟨congrArg Value.bool HV.out, rfl⟩
            case rest =>
              obtain ⟨rfl, hwc⟩ := hcut
              replace hwc := hwc.symm
              subst hwc
              cases pk with
              | true =>
                have hsz : w1.heap.size ≤ wr.heap.size := HB3.out.size
                have hn47 : (q3 + 1) * 16 ≤ 140737488355328 := by have := HSZ4.out; omega
                have hn48 : q3 + 1 ≤ 140737488355328 := by omega
                have HTT : Hid ((K ++ (F.take (t + 1)).filter (fun m => decide (k ≠ 4 ∨ j = 0 ∨ m ≠ s))) = (K ++ (F.take t).filter (fun m => decide (k ≠ 4 ∨ j = 0 ∨ m ≠ s))) ++ [nm]) := Lib.hid (by rw [HTS.out, if_pos rfl, List.append_assoc])
                go_wp2_with (at_builtin; refine wpList_pushAt elStr wr _ _ w1.heap.size A3 q3 c3 _ (.string bm) HO4.out rfl hsz hn47 hn48 rfl rfl rfl rfl ?_; intro A' c' w5 hown5 hb5 hg5 hat5)
                exact ⟨⟨t + 1, rfl, by omega, Lib.hid (by
                  rw [HTT.out]
                  refine ⟨A', c', q3 + 1, rfl, by rw [List.length_append, HQ3.out]; rfl, ?_, HF3.out.trans (push_frel hg5 hat5)⟩
                  rw [List.map_append, List.map_singleton, HSV.out]
                  exact hown5)⟩, measA hlt2⟩
              | false =>
                have HTT : Hid ((K ++ (F.take (t + 1)).filter (fun m => decide (k ≠ 4 ∨ j = 0 ∨ m ≠ s))) = (K ++ (F.take t).filter (fun m => decide (k ≠ 4 ∨ j = 0 ∨ m ≠ s)))) := Lib.hid (by rw [HTS.out, if_neg (by decide), List.append_nil])
                go_wp2_with fail
                exact ⟨⟨t + 1, rfl, by omega, Lib.hid (by
                  rw [HTT.out]
                  exact ⟨A3, c3, q3, rfl, HQ3.out, HO4.out, HF3.out⟩)⟩, measA hlt2⟩
          · obtain rfl : t = F.length := by omega
            have HQ5 : Hid ((fvKids k s X (j + 1)).length = q3) := Lib.hid (by rw [HSU.out, ← HQ3.out, List.take_of_length_le (Nat.le_refl _)])
            have HO5 : Hid (wr.ownsRow w1.heap.size 9 1 (.slice A3 q3 c3) q3 ((fvKids k s X (j + 1)).map sv)) := Lib.hid (by
              have h := HO4.out
              rw [List.take_of_length_le (Nat.le_refl _)] at h
              rw [HSU.out]
              exact h)
            go_wp2_with fail
            exact ⟨⟨j + 1, q3, c3, A3, rfl, by omega, rfl, HQ5, HO5, HB3⟩, measA hlt⟩
      · obtain rfl : j = X.length := by omega
        have HRN := Lib.hid (rRisingN_any (c := cO) (fvKids k s X X.length) wr (Rd.of_own HO.out) HQ.out (by
          have h1 := fvKids_le (k := k) (s := s) (fun y _ => sizeA_fv y) X.length (X := X)
          have h2 := sum_take_le (X.map sizeA) X.length
          have := HQ.out
          have := HS.out
          omega))
        generalize fvKids k s X X.length = L at *
        go_wp2_with fail
        refine HRN.out.mono ?_
        rintro e w9 ⟨A9, c9, rfl, hr9, hb9, hn9⟩
        have HR9 := Lib.hid hr9
        have HB9 := Lib.hid hb9
        have HN9 := Lib.hid hn9
        clear hr9 hb9 hn9
        generalize rising L = RL at *
        go_wp2_with fail
        go_ret
        exact ⟨A9, c9, by rw [HRR.out]; rfl, by rw [HRR.out]; exact HR9.out, below_then (below_then HY.out HB.out) HB9.out, fun g o e => Nat.le_trans (below_then HY.out HB.out).size (HN9.out g o e)⟩
end Go.Proofs.YtcodncddaemhlaaDoor
