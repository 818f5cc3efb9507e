/- Contracts: glob.Match, glob.Pick. -/
import Derived.Test.YtjdfmmjadjggjaaGlob8
import Derived.Test.YtjdfmmjadjggjaaName5
namespace Go.Proofs.Ytjdfmmjadjggjaa
open Go.RowKit

theorem rd_of_ownG {w : World} {A : Option Addr} {xs : List Value} {base sz : Nat} {e : TypeId} {n c : Nat} (h : w.ownsRow base e sz (.slice A n c) n xs) : Rd w A xs := by
  intro hn
  rcases h.2 with ⟨hv, h0⟩ | ⟨g, cap, cur, hv, _, hh, _, _, _, _⟩
  · have := h.1; rw [h0, Nat.zero_mul] at this; omega
  · injection hv with hA _ _
    subst hA
    have hlt : g < w.heap.size := by
      rcases Nat.lt_or_ge g w.heap.size with h' | h'
      · exact h'
      · rw [Array.getElem?_eq_none h'] at hh; cases hh
    refine ⟨g, 0, rfl, hlt, fun j u hu => ?_⟩
    have := h.cells (g := g) rfl j u hu
    unfold Addr.add at this
    by_cases hj : j = 0
    · subst hj; simpa using this
    · simpa [hj] using this
theorem own_lower {w : World} {B B' : Nat} {e : TypeId} {sz : Nat} {v : Value} {n : Nat} {xs : List Value} (h : w.ownsRow B e sz v n xs) (hb : B' ≤ B) : w.ownsRow B' e sz v n xs :=
  ⟨h.1, by
    rcases h.2 with h | ⟨g, cap, cur, hv, hg, r⟩
    · exact .inl h
    · exact .inr ⟨g, cap, cur, hv, Nat.le_trans hb hg, r⟩⟩
def errM (p s : List UInt8) : Nat := if errG p = 0 then (if 2000 < s.length then 2 else 0) else errG p
def matV (p s : List UInt8) : Bool := if errM p s = 0 then (match parseG p with | some M => fitG M s | none => false) else false
set_option maxRecDepth 100000 in
set_option maxHeartbeats 1000000 in
theorem glMatch_any (p s : List UInt8) (hp : p.length ≤ 9223372036854775807) (hl : s.length ≤ 9223372036854775807) (w : World) :
    Calls Try.prog 6 #[.string ⟨p.toArray⟩, .string ⟨s.toArray⟩] w fun e w' => e = .returned (.tuple #[.bool (matV p s), .int .i64 (errM p s : Int)]) ∧ Below w.heap.size w w' := by
  have HP := Lib.hid (pcPieces_any p (by omega) w)
  have hsz : (⟨s.toArray⟩ : ByteArray).size = s.length := rfl
  have HMT := Lib.hid (fun (A : Option Addr) (n c : Nat) (P : List PW) (M : List GQ) (W : World) hP hn hn6 hr => pcMatch_any A n c P M s W hP hn hn6 hr hl)
  have hs6 : s.length ≤ 9223372036854775807 := hl
  generalize (⟨p.toArray⟩ : ByteArray) = bp at *
  generalize (⟨s.toArray⟩ : ByteArray) = bs at *
  have HSZ := Lib.hid hsz
  have hbs : bs.size ≤ 9223372036854775807 := by omega
  clear hsz hl hp hs6
  go_enter Try.func6, Try.ntmps6
  go_wp2_with fail
  refine HP.out.mono ?_
  rintro e w1 ⟨hb, hc⟩
  have HB := Lib.hid hb
  clear hb
  rcases hc with ⟨hno, rfl⟩ | ⟨L, P, A, n, c, h0, h1, h3, h4, h5, h6, rfl⟩
  · have HE : Hid (errM p s = errG p) := Lib.hid (by unfold errM; rw [if_neg hno])
    have HV : Hid (matV p s = false) := Lib.hid (by unfold matV; rw [HE.out, if_neg hno])
    have hn0 : ((errG p : Int) != 0) = true := by simp; omega
    clear hno
    go_wp2_with fail
    go_ret2
    exact ⟨by rw [HE.out, HV.out]; rfl, HB.out⟩
  · have H0 := Lib.hid h0
    have H1 := Lib.hid h1
    have H3 := Lib.hid h3
    have H4 := Lib.hid h4
    have H5 := Lib.hid h5
    have H6 := Lib.hid h6
    clear h0 h1 h3 h4 h5 h6
    by_cases hlen : 2000 < bs.size
    · have HE : Hid (errM p s = 2) := Lib.hid (by unfold errM; rw [if_pos H0.out, if_pos (by rw [← HSZ.out]; exact hlen)])
      have HV : Hid (matV p s = false) := Lib.hid (by unfold matV; rw [HE.out, if_neg (by decide)])
      go_wp2_with fail
      go_ret2
      exact ⟨by rw [HE.out, HV.out]; rfl, HB.out⟩
    · have HE : Hid (errM p s = 0) := Lib.hid (by unfold errM; rw [if_pos H0.out, if_neg (by rw [← HSZ.out]; exact hlen)])
      have HV : Hid (matV p s = fitG L s) := Lib.hid (by unfold matV; rw [HE.out, if_pos rfl, H1.out])
      have hle : bs.size ≤ 2000 := by omega
      clear hlen
      go_wp2_with fail
      refine (HMT.out A n c P L w1 H3.out H4.out H5.out (rd_of_ownG H6.out)).mono ?_
      rintro e w2 ⟨rfl, hb2⟩
      have HB2 := Lib.hid hb2
      clear hb2
      go_wp2_with fail
      go_ret2
      exact ⟨by rw [HE.out, HV.out]; rfl, below_then HB.out HB2.out⟩
def pickG (M : List GQ) (l : List (List UInt8)) : List (List UInt8) := l.filter fun s => decide (s.length ≤ 2000) && fitG M s
theorem pick_snoc (M : List GQ) (l : List (List UInt8)) {k : Nat} {x : List UInt8} (h : l[k]? = some x) : pickG M (l.take (k + 1)) = pickG M (l.take k) ++ (if decide (x.length ≤ 2000) && fitG M x then [x] else []) := by
  unfold pickG
  rw [List.take_add_one, h, List.filter_append]
  simp only [Option.toList, List.filter_cons, List.filter_nil]
def PickPost (p : List UInt8) (l : List (List UInt8)) (w : World) (e : Ending) (w' : World) : Prop :=
  Below w.heap.size w w' ∧ ((errG p ≠ 0 ∧ e = .returned (.tuple #[.slice none 0 0, .int .i64 (errG p : Int)])) ∨
    ∃ M A n c, errG p = 0 ∧ parseG p = some M ∧ (pickG M l).length = n ∧ w'.ownsRow w.heap.size 9 1 (.slice A n c) n ((pickG M l).map sv) ∧ e = .returned (.tuple #[.slice A n c, .int .i64 0]))
set_option maxRecDepth 100000 in
set_option maxHeartbeats 2000000 in
theorem glPick_any (p : List UInt8) (A : Option Addr) (n c : Nat) (l : List (List UInt8)) (hp : p.length ≤ 9223372036854775807) (w : World) (hr : Rd w A (l.map sv)) (hln : l.length = n) (hb16 : n * 16 ≤ 140737488355328) (hs : ∀ x ∈ l, x.length ≤ 9223372036854775807) :
    Calls Try.prog 9 #[.string ⟨p.toArray⟩, .slice A n c] w (PickPost p l w) := by
  have HP := Lib.hid (pcPieces_any p (by omega) w)
  generalize (⟨p.toArray⟩ : ByteArray) = bp at *
  have HR := Lib.hid hr
  have HLN := Lib.hid hln
  have HS := Lib.hid hs
  clear hr hln hs hp
  go_enter Try.func9, Try.ntmps9
  go_wp2_with fail
  refine HP.out.mono ?_
  rintro e w1 ⟨hb, hc⟩
  have HB := Lib.hid hb
  clear hb HP
  rcases hc with ⟨hno, rfl⟩ | ⟨M, P, AP, m, cP, h0, h1, h3, h4, h5, h6, rfl⟩
  · have HNO := Lib.hid hno
    have hn0 : ((errG p : Int) != 0) = true := by simp; omega
    clear hno
    go_wp2_with fail
    go_ret2
    exact ⟨HB.out, .inl ⟨HNO.out, rfl⟩⟩
  · have H0 := Lib.hid h0
    have H1 := Lib.hid h1
    have H3 := Lib.hid h3
    have H4 := Lib.hid h4
    have H5 := Lib.hid h5
    have H6 := Lib.hid (rd_of_ownG h6)
    clear h0 h1 h3 h4 h5 h6
    go_wp2_with fail
    go_loopw [8, 21] (fun x y wr => ∃ (k q cO : Nat) (AO : Option Addr), x = .slice AO q cO ∧ y = .int .i64 (k : Int) ∧ k ≤ n ∧ q ≤ k ∧ Hid ((pickG M (l.take k)).length = q) ∧ Hid (wr.ownsRow w1.heap.size 9 1 (.slice AO q cO) q ((pickG M (l.take k)).map sv)) ∧ Hid (Below w1.heap.size w1 wr)) (fun _ y _ => n - (intOf y).toNat)
    case atStart => exact ⟨0, 0, 0, none, rfl, rfl, by omega, by omega, Lib.hid rfl, Lib.hid (World.ownsRow_nil _ _ _ _), Lib.hid (Below.refl _ _)⟩
    case round =>
      obtain ⟨k, q, cO, AO, rfl, rfl, hk, hqk, HQ, HO, HBW⟩ := hrel
      by_cases hlt : k < n
      · have hx : l[k]? = some (l[k]'(by rw [HLN.out]; exact hlt)) := List.getElem?_eq_getElem _
        generalize (l[k]'(by rw [HLN.out]; exact hlt)) = x at hx
        obtain ⟨b, off, rfl, hcx⟩ := ((HR.out.below HB.out).below HBW.out).scell hx
        have HXL := Lib.hid (HS.out x (List.mem_of_getElem? hx))
        have HPK := Lib.hid (pick_snoc M l hx)
        have HMT := Lib.hid (fun W (hb : Below w1.heap.size w1 W) => pcMatch_any AP m cP P M x W H3.out H4.out H5.out (H6.out.below hb) HXL.out)
        clear hx
        have hsz : (⟨x.toArray⟩ : ByteArray).size = x.length := rfl
        have HSX := Lib.hid (show Value.string ⟨x.toArray⟩ = sv x from rfl)
        generalize (⟨x.toArray⟩ : ByteArray) = bx at *
        have HSZ := Lib.hid hsz
        clear hsz
        have hzz : w1.heap.size ≤ wr.heap.size := HBW.out.size
        by_cases hlen : bx.size ≤ 2000
        · have hd : decide (x.length ≤ 2000) = true := decide_eq_true (by rw [← HSZ.out]; exact hlen)
          have hL : (bx.size : Int) ≤ 2000 := by omega
          cases hf : fitG M x with
          | true =>
            rw [hd, hf] at HPK
            simp only [hf] at HMT
            clear hd hf hlen
            have hqn : (q + 1) * 16 ≤ 140737488355328 := by omega
            go_wp2_with (first | (go_at_call 41; refine (HMT.out _ HBW.out).mono ?_; rintro e w3 ⟨rfl, hb3⟩; have HO3 := Lib.hid (own_belowG HO.out hb3); have HB3 := Lib.hid (below_then HBW.out hb3); have hz3 : w1.heap.size ≤ w3.heap.size := HB3.out.size) | (at_builtin; refine wpList_push elStr w3 _ _ w1.heap.size AO q cO _ (.string bx) HO3.out rfl hz3 hqn (by omega) rfl rfl rfl rfl ?_; intro A' c' w5 hown5 hb5))
            have HPE : Hid ((pickG M (l.take (k + 1))).map sv = (pickG M (l.take k)).map sv ++ [.string bx]) := Lib.hid (by rw [HPK.out, HSX.out]; simp)
            have HPQ : Hid ((pickG M (l.take (k + 1))).length = q + 1) := Lib.hid (by rw [HPK.out]; simp [HQ.out])
            exact ⟨⟨k + 1, q + 1, c', A', rfl, rfl, by omega, by omega, HPQ, Lib.hid (by rw [HPE.out]; exact hown5), Lib.hid (HB3.out.trans hb5)⟩, by simp only [intOf]; omega⟩
          | false =>
            rw [hd, hf] at HPK
            simp only [hf] at HMT
            clear hd hf hlen
            go_wp2_with (go_at_call 41; refine (HMT.out _ HBW.out).mono ?_; rintro e w3 ⟨rfl, hb3⟩; have HO3 := Lib.hid (own_belowG HO.out hb3); have HB3 := Lib.hid (below_then HBW.out hb3))
            have HPE : Hid (pickG M (l.take (k + 1)) = pickG M (l.take k)) := Lib.hid (by rw [HPK.out]; simp)
            exact ⟨⟨k + 1, q, cO, AO, rfl, rfl, by omega, by omega, Lib.hid (by rw [HPE.out]; exact HQ.out), Lib.hid (by rw [HPE.out]; exact HO3.out), HB3⟩, by simp only [intOf]; omega⟩
        · have hd : decide (x.length ≤ 2000) = false := decide_eq_false (by rw [← HSZ.out]; exact hlen)
          have hL : ¬ bx.size ≤ 2000 := hlen
          rw [hd] at HPK
          clear hd hlen
          go_wp2_with fail
          have HPE : Hid (pickG M (l.take (k + 1)) = pickG M (l.take k)) := Lib.hid (by rw [HPK.out]; simp)
          exact ⟨⟨k + 1, q, cO, AO, rfl, rfl, by omega, by omega, Lib.hid (by rw [HPE.out]; exact HQ.out), Lib.hid (by rw [HPE.out]; exact HO.out), HBW⟩, by simp only [intOf]; omega⟩
      · have hkn : k = n := by omega
        subst hkn
        have HT : Hid (l.take k = l) := Lib.hid (List.take_of_length_le (by rw [HLN.out]; exact Nat.le_refl _))
        go_wp2_with fail
        go_ret2
        refine ⟨below_then HB.out HBW.out, .inr ⟨M, AO, q, cO, H0.out, H1.out, by rw [← HT.out]; exact HQ.out, ?_, rfl⟩⟩
        have h := HO.out
        rw [HT.out] at h
        exact own_lower h HB.out.size
end Go.Proofs.Ytjdfmmjadjggjaa
