/- Contract: log.Print. Names of at most 2^40 bytes; the tables of math/bits and of strconv lie. -/
import Derived.Test.YtcjhkfhogcdobaaDoorLogT
import Derived.Test.YtcjhkfhogcdobaaDoorLnBld
import Derived.Test.YtcjhkfhogcdobaaDoorShelfBld
import Derived.Test.YtcjhkfhogcdobaaDoorBlk
namespace Go.Proofs.YtcjhkfhogcdobaaDoor
open Go.RowKit

theorem stFirst_all : ∀ {L : List StampT}, stFirst L = 0 → ∀ x ∈ L, stOne x = 0
  | [], _, x, h => by cases h
  | y :: L, h, x, hx => by
    unfold stFirst at h
    by_cases h1 : stOne y = 0
    · rw [if_pos h1] at h
      rw [List.mem_cons] at hx
      rcases hx with rfl | hx
      · exact h1
      · exact stFirst_all h x hx
    · rw [if_neg h1] at h
      exact absurd h h1
theorem stErr_good {L : List StampT} (h : stErr L = 0) : L.length ≤ 200 ∧ (∀ x ∈ L, stOne x = 0) ∧ risesB leAt L = true := by
  unfold stErr at h
  by_cases h1 : 200 < L.length
  · rw [if_pos h1] at h; cases h
  · rw [if_neg h1] at h
    by_cases h2 : stFirst L = 0
    · rw [if_pos h2] at h
      refine ⟨by omega, stFirst_all h2, ?_⟩
      by_cases h3 : risesB leAt L = true
      · exact h3
      · rw [if_neg h3] at h; cases h
    · rw [if_neg h2] at h; exact absurd h h2
theorem stampT_len {x : StampT} (h : stOne x = 0) : (stampT x).length ≤ 100 ∧ x.1.length ≤ 40 := by
  obtain ⟨h1, h2, h3, _⟩ := stOne_zero h
  have hn : x.1.length ≤ 40 := by
    unfold goodName at h1
    simp only [Bool.and_eq_true, decide_eq_true_eq] at h1
    exact h1.2.2
  have hi := Lib.itoa_length_le x.2.1 (by omega) (by omega)
  refine ⟨?_, hn⟩
  unfold stampT
  simp only [List.length_append, List.length_cons, List.length_nil, hexT_len]
  omega
theorem stampsT_len : ∀ {L : List StampT}, (∀ x ∈ L, stOne x = 0) → (stampsT L).length ≤ 100 * L.length
  | [], _ => by simp [stampsT]
  | x :: L, h => by
    have := stampsT_len (L := L) fun y hy => h y (List.mem_cons_of_mem _ hy)
    have h2 := (stampT_len (h x (by simp))).1
    unfold stampsT at *
    rw [List.flatMap_cons, List.length_append, List.length_cons]
    omega
theorem stampsT_take {L : List StampT} {k : Nat} {x : StampT} (h : L[k]? = some x) : stampsT (L.take (k + 1)) = stampsT (L.take k) ++ stampT x := by
  rw [List.take_add_one, h]
  exact stampsT_snoc _ _
abbrev IsBld (B : Nat) (O : List UInt8) (w : World) : Prop := Lib.IsBuilder 35 5 B B (Lib.byteCells O) w
theorem bld_own {w w' : World} {B : Nat} {e : TypeId} {sz : Nat} {v : Value} {n : Nat} {xs : List Value} (h : w.ownsRow B e sz v n xs) (hb : Below w.heap.size w w') : w'.ownsRow B e sz v n xs := by
  obtain ⟨h0, h | ⟨g, cap, cur, hv, hg, hk, hr⟩⟩ := h
  · exact ⟨h0, .inl h⟩
  · exact ⟨h0, .inr ⟨g, cap, cur, hv, hg, (hb.block g (Array.getElem?_eq_some_iff.1 hk).1).trans hk, hr⟩⟩
theorem bld_belowL {B : Nat} {O : List UInt8} {w w' : World} (h : IsBld B O w) (hb : Below w.heap.size w w') : IsBld B O w' := by
  have key : ∀ q, Lib.BuilderAt 35 5 B B q (Lib.byteCells O) w → Lib.BuilderAt 35 5 B B q (Lib.byteCells O) w' := fun q hq => by
    have hlt := hq.lt
    obtain ⟨hB, v, hv, hown, hne⟩ := hq
    exact ⟨hB, v, (hb.block B hlt).trans hv, bld_own hown hb, hne⟩
  exact h.imp (key _) (key _)
theorem bldLt {B : Nat} {O : List UInt8} {w : World} (h : IsBld B O w) : B < w.heap.size := h.elim (fun h => h.lt) (fun h => h.lt)
theorem bld_cat (O S : List UInt8) : Lib.byteCells O ++ Lib.strCells (⟨S.toArray⟩ : ByteArray) = Lib.byteCells (O ++ S) := by
  show Lib.byteCells O ++ Lib.byteCells _ = _
  unfold Lib.byteCells
  simp only [List.map_append]
theorem below_w {wz w wr : World} (h : Below wz.heap.size wz wr) (_ : Below w.heap.size w wz) : Below wz.heap.size wz wr := h
theorem below_newL {a w w' : World} (h : Below a.heap.size a w) (k : Below w.heap.size w w') : Below a.heap.size a w' := h.trans (k.mono h.size)
def PrintPost (L : List StampT) (w : World) (e : Ending) (w' : World) : Prop := e = .returned (.tuple #[.string ⟨(if stErr L = 0 then stampsT L else []).toArray⟩, .int .i64 (stErr L)]) ∧ Below w.heap.size w w'
set_option maxHeartbeats 2000000 in
theorem lPrint_any {A : Option Addr} {n c : Nat} (L : List StampT) (w : World) (hr : Rd w A (stV L)) (hn : L.length = n) (hb : n ≤ 9223372036854775807) (hs : NamesOk L) (hT : LTab w) :
    Calls Tryd.prog 4 #[.slice A n c] w (PrintPost L w) := by
  have CC := Lib.hid (lCheck_any (A := A) (n := n) (c := c) L w hr hn hb hs)
  have HR := Lib.hid hr
  have HN := Lib.hid hn
  have HT := Lib.hid hT
  clear hr hn hs hT
  go_enter Tryd.func4, Tryd.ntmps4
  go_wp2_with fail
  refine CC.out.mono ?_
  rintro e w1 ⟨rfl, hb1⟩
  have HB1 := Lib.hid hb1
  clear hb1 CC
  by_cases hz : stErr L = 0
  · have HZ := Lib.hid hz
    have HF : Hid (Value.string ⟨(if stErr L = 0 then stampsT L else []).toArray⟩ = .string ⟨(stampsT L).toArray⟩) := Lib.hid (by rw [if_pos hz])
    have HG := Lib.hid (stErr_good hz)
    have hn2 : n ≤ 200 := by have := HG.out.1; have := HN.out; omega
    unfold PrintPost
    rw [hz]
    clear hz
    have HBI : Hid (IsBld w1.heap.size [] (w1.alloc (.cells #[.pointer none, .slice none 0 0] 35))) := Lib.hid (Lib.fresh_isBuilder _ _ _)
    have HBB : Hid (Below w1.heap.size w1 (w1.alloc (.cells #[.pointer none, .slice none 0 0] 35))) := Lib.hid (below_new (Below.refl _ _) _)
    go_wp2_with fail
    obtain ⟨wz, hwz⟩ : ∃ wz : World, wz = w1 := ⟨_, rfl⟩
    subst hwz
    go_loopw [7, 15] (fun _ i wr => ∃ q : Nat, q ≤ n ∧ i = .int .i64 (q : Int) ∧ Hid (IsBld wz.heap.size (stampsT (L.take q)) wr) ∧ Hid (Below wz.heap.size wz wr)) (fun _ i _ => n - (intOf i).toNat)
    case atStart => exact ⟨0, by omega, rfl, HBI, HBB⟩
    case round =>
      clear HBI HBB
      obtain ⟨q, hq, rfl, HBI, HBW⟩ := hrel
      by_cases hlt : q < n
      · obtain ⟨⟨s, t, f⟩, hx⟩ : ∃ x, L[q]? = some x := ⟨_, List.getElem?_eq_getElem (by rw [HN.out]; exact hlt)⟩
        obtain ⟨b, off, rfl, y1, y2, y3⟩ := ((HR.out.below HB1.out).below HBW.out).stamp hx
        have hq2 : (q : Int) < (n : Int) := by omega
        have hg := HG.out.2.1 _ (List.mem_of_getElem? hx)
        have hnt := stOne_zero hg
        have hl := stampT_len hg
        have HTX := Lib.hid (fun W (hW : LTab W) => lText_any (s, t, f) W (by have := hnt.2.1; omega) (by have := hnt.2.2.1; omega) (by have := hl.2; omega) hW)
        have HLN : Hid (((Lib.byteCells (stampsT (L.take q))).length + (⟨(stampT (s, t, f)).toArray⟩ : ByteArray).size ≤ 140737488355328)) := Lib.hid (by
          rw [Lib.byteCells_length]
          have h1 := stampsT_len (L := L.take q) fun y hy => HG.out.2.1 y (List.mem_of_mem_take hy)
          rw [List.length_take] at h1
          have h2 := hl.1
          simp only [ByteArray.size, List.size_toArray]
          omega)
        have HNX := Lib.hid (stampsT_take hx)
        have HTW : Hid (LTab wr) := Lib.hid ((HT.out.below HB1.out).below (below_w HBW.out HB1.out))
        have HB := Lib.hid (fun o => below_new HBW.out o)
        have HBN := Lib.hid (fun o => (bld_belowL HBI.out (below_new (Below.refl wr.heap.size wr) o)))
        have HTN := Lib.hid (fun o => HTW.out.below (below_new (Below.refl wr.heap.size wr) o))
        clear hx hg hnt hl
        simp only at y1 y2 y3
        unfold stA TextPost sv fv at *
        simp only at HTX
        generalize stampT (s, t, f) = T at *
        generalize (⟨s.toArray⟩ : ByteArray) = bs at *
        go_wp2_with fail
        refine (HTX.out _ (HTN.out _)).mono ?_
        rintro e w3 ⟨rfl, hb3⟩
        have HB3 := Lib.hid (below_newL (HB.out _) hb3)
        have HI3 := Lib.hid (bld_belowL (HBN.out _) hb3)
        have hsz := HB3.out.size
        clear hb3 HTX HTN HBN HB
        go_wp2_with fail
        refine (bld_str wz.heap.size wz.heap.size (Lib.byteCells (stampsT (L.take q))) ⟨T.toArray⟩ w3 HI3.out HLN.out hsz).mono ?_
        rintro e w7 ⟨rfl, h7, hb7, _⟩
        have HI7 : Hid (IsBld wz.heap.size (stampsT (L.take (q + 1))) w7) := Lib.hid (by rw [HNX.out]; have h := h7; rw [bld_cat] at h; exact .inr h)
        have HB7 := Lib.hid (HB3.out.trans hb7)
        clear h7 hb7
        go_wp2_with fail
        go_roundw
        case rel => exact ⟨q + 1, by omega, by go_num, HI7, HB7⟩
        case measure => simp [intOf]; omega
      · have hqn : ¬ (q : Int) < (n : Int) := by omega
        have hqe : q = n := by omega
        have HI : Hid (IsBld wz.heap.size (stampsT L) wr) := Lib.hid (by
          have h := HBI.out
          rw [List.take_of_length_le (by rw [HN.out]; omega)] at h
          exact h)
        clear HBI hqe
        go_wp2_with fail
        refine (Tryd.Builder_String_any wz.heap.size wz.heap.size (stampsT L) wr HI.out HBW.out.size).mono ?_
        rintro e w8 ⟨rfl, hb8⟩
        have HB8 := Lib.hid (HBW.out.trans hb8)
        clear hb8
        go_wp2_with fail
        go_ret2
        exact ⟨by rw [HF.out, HZ.out]; rfl, below_newL HB1.out HB8.out⟩
  · have HF : Hid (Value.string ⟨(if stErr L = 0 then stampsT L else []).toArray⟩ = .string ⟨#[]⟩) := Lib.hid (by rw [if_neg hz])
    have HZ := Lib.hid hz
    generalize hE : stErr L = E at *
    have hE2 := Lib.hid hE
    clear hE
    go_wp2_with fail
    go_ret2
    exact ⟨by rw [hE2.out, HF.out]; rfl, HB1.out⟩
end Go.Proofs.YtcjhkfhogcdobaaDoor
/- Contracts: the reference's StampsText at stamps that are right, OfBits. -/
namespace Go.Proofs.YtcjhkfhogcdobaaDoor
open Go.RowKit

theorem rOfBits_any (u : Nat) (hu : u < 18446744073709551616) (w : World) : Calls Tryd.prog 19 #[.int .u64 (u : Int)] w fun e w' => e = .returned (.float .f64 (UInt64.ofNat u).toNat) ∧ w = w' := by
  go_enter Tryd.func19, Tryd.ntmps19
  go_wp2_with fail
  go_ret
  have e : (UInt64.ofNat u).toNat = u := by simp; omega
  exact ⟨by rw [e]; rfl, rfl⟩
set_option maxHeartbeats 2000000 in
theorem rStampsText_any {A : Option Addr} {n c : Nat} (L : List StampT) (w : World) (hr : Rd w A (stV L)) (hn : L.length = n) (hz : stErr L = 0) :
    Calls Tryd.prog 9 #[.slice A n c] w (TextPost (stampsT L) w) := by
  have HR := Lib.hid hr
  have HN := Lib.hid hn
  have HG := Lib.hid (stErr_good hz)
  have hn2 : n ≤ 200 := by have := HG.out.1; omega
  clear hr hn hz
  go_enter Tryd.func9, Tryd.ntmps9
  go_wp2_with fail
  go_loopw [3, 5, 8] (fun t _ i wr => ∃ q : Nat, q ≤ n ∧ i = .int .i64 (q : Int) ∧ t = .string ⟨(stampsT (L.take q)).toArray⟩ ∧ Hid (Below w.heap.size w wr)) (fun _ _ i _ => n - (intOf i).toNat)
  case atStart => exact ⟨0, by omega, rfl, rfl, Lib.hid (Below.refl _ _)⟩
  case round =>
    obtain ⟨q, hq, rfl, rfl, HBW⟩ := hrel
    by_cases hlt : q < n
    · obtain ⟨⟨s, t, f⟩, hx⟩ : ∃ x, L[q]? = some x := ⟨_, List.getElem?_eq_getElem (by rw [HN.out]; exact hlt)⟩
      obtain ⟨b, off, rfl, y1, y2, y3⟩ := (HR.out.below HBW.out).stamp hx
      have hq2 : (q : Int) < (n : Int) := by omega
      have hg := HG.out.2.1 _ (List.mem_of_getElem? hx)
      have hnt := stOne_zero hg
      have hl := stampT_len hg
      have HTX := Lib.hid (fun W => rStampText_any (s, t, f) W hnt.2.1 (by have := hnt.2.2.1; omega) (by have := hl.2; omega))
      have hT : (⟨(stampT (s, t, f)).toArray⟩ : ByteArray).size ≤ 100 := by simp only [ByteArray.size, List.size_toArray]; exact hl.1
      have hO : (⟨(stampsT (L.take q)).toArray⟩ : ByteArray).size ≤ 20000 := by
        have h1 := stampsT_len (L := L.take q) fun y hy => HG.out.2.1 y (List.mem_of_mem_take hy)
        rw [List.length_take] at h1
        simp only [ByteArray.size, List.size_toArray]
        omega
      have HNX := Lib.hid (stampsT_take hx)
      have HB := Lib.hid (fun o => below_new HBW.out o)
      clear hx hg hnt hl
      simp only at y1 y2 y3
      unfold stA TextPost sv fv at *
      simp only at HTX
      generalize stampT (s, t, f) = T at *
      generalize (⟨s.toArray⟩ : ByteArray) = bs at *
      generalize hbo : (⟨(stampsT (L.take q)).toArray⟩ : ByteArray) = bo at *
      generalize hbt : (⟨T.toArray⟩ : ByteArray) = bt at *
      have HCAT : Hid (bo ++ bt = ⟨(stampsT (L.take (q + 1))).toArray⟩) := Lib.hid (by rw [HNX.out, ← hbo, ← hbt, ByteArray.mk_append_mk])
      clear hbo hbt
      have n1 : bo.size + bt.size ≤ 9223372036854775807 := by omega
      have n2 : ¬ 9223372036854775807 < bo.size + bt.size := by omega
      go_wp2_with fail
      refine (HTX.out _).mono ?_
      rintro e w3 ⟨rfl, hb3⟩
      have HB3 := Lib.hid (below_newL (HB.out _) hb3)
      clear hb3 HTX HB
      go_wp2_with fail
      go_roundw
      case rel => exact ⟨q + 1, by omega, by go_num, by rw [HCAT.out], HB3⟩
      case measure => simp [intOf]; omega
    · have hqn : ¬ (q : Int) < (n : Int) := by omega
      have HE : Hid (stampsT (L.take q) = stampsT L) := Lib.hid (by rw [List.take_of_length_le (by rw [HN.out]; omega)])
      go_wp2_with fail
      go_ret
      unfold TextPost
      exact ⟨by rw [HE.out]; rfl, HBW.out⟩
end Go.Proofs.YtcjhkfhogcdobaaDoor
