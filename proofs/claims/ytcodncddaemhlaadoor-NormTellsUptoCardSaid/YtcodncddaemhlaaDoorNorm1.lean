/- Contract: ask.text, of an ask that is right, of at most 60 parts, over the tables of ask and of strconv. -/
import Derived.Test.YtcodncddaemhlaaDoorAsk2
import Derived.Test.YtcodncddaemhlaaDoorNormPlain
import Derived.Test.YtcodncddaemhlaaDoorDecimal
import Derived.Test.YtcodncddaemhlaaDoorShelfJoin
import Derived.Test.YtcodncddaemhlaaDoorName5
import Derived.Lib.LaidTab
import Derived.Lib.AppendIntMem
import Derived.Deep.RegionHeld3
import Derived.BigQuiet
import Derived.Deep.QuietTactic
namespace Go.Proofs.YtcodncddaemhlaaDoor
open Go.RowKit

/-- The tables that a text reads. -/
structure NTab (w : World) : Prop where
  f : FTab w
  k1 : w.cell? ⟨1, 1, none⟩ = some (.string ⟨#[109, 97, 100, 101]⟩)
  k2 : w.cell? ⟨1, 2, none⟩ = some (.string ⟨#[112, 104, 111, 110, 121]⟩)
  k3 : w.cell? ⟨1, 3, none⟩ = some (.string ⟨#[112, 108, 97, 105, 110]⟩)
  p10 : Lib.TabIs Tryd.prog w "internal/strconv.uint64pow10" .u64 Lib.pow10Tab
theorem tabIs_below {w w' : World} {zs : List Int} (h : Lib.TabIs Tryd.prog w "internal/strconv.uint64pow10" .u64 zs) (hb : Below w.heap.size w w') : Lib.TabIs Tryd.prog w' "internal/strconv.uint64pow10" .u64 zs := by
  have hgn : Tryd.prog.globalNamed "internal/strconv.uint64pow10" = some 5 := by kernel_rfl
  unfold Lib.TabIs World.var? at h ⊢
  rw [hgn] at h ⊢
  simp only [Option.bind_some] at h ⊢
  have hlt : 5 < w.heap.size := by
    rcases Nat.lt_or_ge 5 w.heap.size with h' | h'
    · exact h'
    · rw [Array.getElem?_eq_none h'] at h; cases h
  rw [hb.block 5 hlt]
  exact h
theorem NTab.below {w w' : World} (h : NTab w) (hb : Below w.heap.size w w') : NTab w' :=
  ⟨h.f.below hb, cell_keptA h.k1 hb, cell_keptA h.k2 hb, cell_keptA h.k3 hb, tabIs_below h.p10 hb⟩
def StrPost (T : List UInt8) (w : World) (e : Ending) (w' : World) : Prop := e = .returned (.string ⟨T.toArray⟩) ∧ Below w.heap.size w w'
theorem itoa_len {n : Int} (h0 : 0 ≤ n) (h1 : n ≤ 100) : (Lib.itoa n).length ≤ 3 := by
  unfold Lib.itoa
  rw [if_neg (by omega), Lib.decDigits_length]
  obtain ⟨m, rfl⟩ : ∃ m : Nat, n = m := ⟨n.toNat, by omega⟩
  have hm : m ≤ 100 := by omega
  simp only [Int.toNat_natCast]
  by_cases h2 : m < 10
  · rw [Lib.nDigits_small h2]; omega
  · rw [Lib.nDigits_big h2]
    by_cases h3 : m / 10 < 10
    · rw [Lib.nDigits_small h3]; omega
    · rw [Lib.nDigits_big h3, Lib.nDigits_small (by omega)]; omega
theorem name_len {k : Int} {s : List UInt8} {n : Int} {X : List AskT} (h : okA (.mk k s n X)) : s.length ≤ 60 := by
  obtain ⟨_, _, hm, hs, _⟩ := ok_form h
  have h0 := ok_node h
  by_cases hn : namedK k = true
  · unfold nodeE at h0
    split at h0
    · cases h0
    split at h0
    · cases h0
    split at h0
    · split at h0
      · cases h0
      · rename_i hp
        have hp' : patB s = true := by simpa using hp
        unfold patB at hp'
        have he : errG s = 0 := by
          have := (Bool.and_eq_true _ _ ▸ hp' : _ ∧ _).2
          exact of_decide_eq_true this
        unfold errG at he
        split at he
        · cases he
        · omega
    · split at h0
      · cases h0
      · rename_i hg
        have hg' : goodName s = true := by
          cases hgs : goodName s with
          | true => rfl
          | false => exact absurd (.inl hgs) hg
        unfold goodName at hg'
        simp only [Bool.and_eq_true, decide_eq_true_eq] at hg'
        omega
  · rw [hs (by simpa using hn)]
    simp
theorem textK_len {k : Int} {s : List UInt8} {n : Int} {a b : List UInt8} {A B : Nat} (hs : s.length ≤ 60) (hn : k = 10 ∨ k = 11 → (Lib.itoa n).length ≤ 3) (ha : a.length ≤ A) (hb : b.length ≤ B) : (textK k s n a b).length ≤ 100 + A + B := by
  unfold textK
  have h1 : (wordA k).length ≤ 5 := by unfold wordA; repeat' split
                                       all_goals simp
  have h2 : (signA k).length ≤ 5 := by unfold signA; repeat' split
                                       all_goals simp
  have h3 : (kindA n).length ≤ 5 := by unfold kindA; repeat' split
                                       all_goals simp
  repeat' split
  all_goals (try simp only [List.length_append, List.length_cons, List.length_nil])
  all_goals first
    | omega
    | (have := hn (by assumption); omega)
theorem textA_len : ∀ x : AskT, okA x → (textA x).length ≤ 100 * sizeA x := by
  refine askT_ind fun k s n X ih hx => ?_
  rw [textA_mk, sizeA_mk]
  have hk := ok_kids hx
  obtain ⟨_, _, hm, _, _⟩ := ok_form hx
  have hX : X = [] ∨ (∃ a, X = [a]) ∨ ∃ a b, X = [a, b] := by
    have : X.length ≤ 2 := by rw [hm]; unfold manyK; repeat' split
                              all_goals omega
    match X, this with
    | [], _ => exact .inl rfl
    | [a], _ => exact .inr (.inl ⟨a, rfl⟩)
    | [a, b], _ => exact .inr (.inr ⟨a, b, rfl⟩)
  have hn := fun (h : k = 10 ∨ k = 11) => itoa_len (ok_num hx h).1 (ok_num hx h).2
  rcases hX with rfl | ⟨a, rfl⟩ | ⟨a, b, rfl⟩
  · have := textK_len (k := k) (s := s) (n := n) (a := []) (b := []) (A := 0) (B := 0) (name_len hx) hn (Nat.le_refl _) (Nat.le_refl _)
    simpa using this
  · have := textK_len (k := k) (s := s) (n := n) (a := textA a) (b := []) (B := 0) (name_len hx) hn (ih a (by simp) (hk a (by simp))) (Nat.le_refl _)
    simp at this ⊢
    omega
  · have := textK_len (k := k) (s := s) (n := n) (a := textA a) (b := textA b) (name_len hx) hn (ih a (by simp) (hk a (by simp))) (ih b (by simp) (hk b (by simp)))
    simp at this ⊢
    omega
end Go.Proofs.YtcodncddaemhlaaDoor
/- Contract: ask.text, of an ask that is right, of at most 60 parts, over the tables of ask and of strconv. -/
namespace Go.Proofs.YtcodncddaemhlaaDoor
open Go.RowKit

def TxIs (w1 : World) (l : List (List UInt8)) (v : Value) (wx : World) : Prop := ∃ A c q, v = .slice A q c ∧ l.length = q ∧ wx.ownsRow w1.heap.size 9 1 (.slice A q c) q (l.map sv) ∧ Below w1.heap.size w1 wx
theorem join_one' (a sep : List UInt8) : Lib.join [a] sep = a := Lib.join_one a sep
theorem join_two (a b sep : List UInt8) : Lib.join [a, b] sep = a ++ sep ++ b := by simp [Lib.join, List.intercalate, List.intersperse]
theorem own_cell1 {w : World} {B e c : Nat} {A : Option Addr} {u : Value} (h : w.ownsRow B e 1 (.slice A 1 c) 1 [u]) : ∃ g, A = some ⟨g, 0, none⟩ ∧ w.cell? ⟨g, 0, none⟩ = some u ∧ 1 ≤ c ∧ g < w.heap.size := by
  obtain ⟨g, rfl, hc⟩ := own_more h (by omega)
  have h0 := own_cells h 0 u rfl
  exact ⟨g, rfl, by simpa [Addr.add] using h0, hc, (h.lt g rfl).2⟩
theorem own_cell2 {w : World} {B e c : Nat} {A : Option Addr} {u v : Value} (h : w.ownsRow B e 1 (.slice A 2 c) 2 [u, v]) : ∃ g, A = some ⟨g, 0, none⟩ ∧ w.cell? ⟨g, 0, none⟩ = some u ∧ w.cell? ⟨g, 1, none⟩ = some v ∧ 2 ≤ c ∧ g < w.heap.size := by
  obtain ⟨g, rfl, hc⟩ := own_more h (by omega)
  have h0 := own_cells h 0 u rfl
  have h1 := own_cells h 1 v rfl
  exact ⟨g, rfl, by simpa [Addr.add] using h0, by simpa [Addr.add] using h1, hc, (h.lt g rfl).2⟩
set_option maxRecDepth 100000 in
set_option maxHeartbeats 4000000 in
theorem aText_any : ∀ (x : AskT) (A : Option Addr) (c : Nat) (w : World), AskAt w x A c → okA x → sizeA x ≤ 60 → NTab w → Calls Tryd.prog 76 #[askV x A c] w (StrPost (textA x) w) := by
  refine askT_ind fun k s n X ih A c w hA hok hs hT => ?_
  have HIH := Lib.hid ih
  have HA := Lib.hid hA
  have HOK := Lib.hid hok
  have HNT := Lib.hid hT
  have HS : Hid (1 + (X.map sizeA).sum ≤ 60) := Lib.hid (by rw [← sizeA_mk k s n X]; exact hs)
  have hm' : X.length ≤ 60 := by have := kids_le X; have := HS.out; omega
  have HTA := Lib.hid (textA_mk k s n X)
  have hr := ok_form hok
  obtain ⟨q, hq⟩ : ∃ q : Nat, k = (q : Int) := ⟨k.toNat, by omega⟩
  subst hq
  have hq1 : 1 ≤ q := by have := hr.1; omega
  have hq2 : q ≤ 15 := by have := hr.2.1; omega
  have hq3 : (q : Int) < 16 := by omega
  have hq4 : (0 : Int) ≤ (q : Int) := by omega
  obtain ⟨y, hy⟩ := boxA_new w (.int .i64 (q : Int)) (.string ⟨s.toArray⟩) (.int .i64 n) (.slice A X.length c) 24
  have Y := Lib.hid y
  have HY := Lib.hid hy
  clear ih hA hok hs hT hr y hy
  unfold askV
  simp only [AskT.kind, AskT.name, AskT.n, AskT.X]
  generalize hTT : textA (.mk (q : Int) s n X) = T at *
  clear hTT
  generalize hbs : (⟨s.toArray⟩ : ByteArray) = bs at *
  have HSB : Hid (bs.data.toList = s) := Lib.hid (by rw [← hbs])
  have HBS := Lib.hid hbs
  clear hbs
  go_enter Tryd.func76, Tryd.ntmps76
  go_upto_region 1 with fail
  generalize w.alloc (.cells #[.int .i64 (q : Int), .string bs, .int .i64 n, .slice A X.length c] 24) = w0 at *
  obtain ⟨y1, y2, y3, y4⟩ := Y.out
  obtain ⟨f1, f2, f3, f4⟩ := (HNT.out.below HY.out).f.at_ q hq1 hq2
  generalize manyK (q : Int) = mk at *
  generalize namedK (q : Int) = nb at *
  generalize numK (q : Int) = ub at *
  generalize hwd : (⟨(wordK (q : Int)).toArray⟩ : ByteArray) = wd at *
  have HWD : Hid (wd.data.toList = wordK (q : Int)) := Lib.hid (by rw [← hwd])
  clear hwd
  obtain ⟨z, hz⟩ := boxA_new w0 (.int .i64 (mk : Int)) (.bool nb) (.bool ub) (.string wd) 56
  have Z := Lib.hid z
  have HZ := Lib.hid (below_newA HY.out hz)
  have Y1 := Lib.hid (Y.out.below hz)
  clear z hz
  go_upto_region 2 with fail
  generalize w0.alloc (.cells #[.int .i64 (mk : Int), .bool nb, .bool ub, .string wd] 56) = w1 at *
  generalize w0.heap.size = BF at *
  clear y1 y2 y3 y4 f1 f2 f3 f4
  obtain ⟨y1, y2, y3, y4⟩ := Y1.out
  obtain ⟨z1, z2, z3, z4⟩ := Z.out
  go_wp2_with fail
  go_loopw [4, 6, 14] (fun v4 _ i wr => ∃ (j : Nat), i = .int .i64 (j : Int) ∧ j ≤ X.length ∧ Hid (TxIs w1 ((X.map textA).take j) v4 wr)) (fun _ _ i _ => X.length - (intOf i).toNat)
  case atStart => exact ⟨0, rfl, by omega, Lib.hid ⟨none, 0, 0, rfl, rfl, World.ownsRow_nil _ _ _ _, Below.refl _ _⟩⟩
  case round =>
    obtain ⟨j, rfl, hj, HI⟩ := hrel
    obtain ⟨A3, c3, p, rfl, hp, ho3, hb3⟩ := HI.out
    have HP := Lib.hid hp
    have HO3 := Lib.hid ho3
    have HB := Lib.hid (below_newA HZ.out hb3)
    have HB1 := Lib.hid hb3
    clear hp ho3 hb3 HI
    by_cases hlt : j < X.length
    · obtain ⟨x, hx⟩ : ∃ x, X[j]? = some x := ⟨_, List.getElem?_eq_getElem hlt⟩
      obtain ⟨b, off, A', c', rfl, e1, e2, e3, e4, hch⟩ := AskAt.child (AskAt.keep HB.out _ _ _ HA.out) hx
      have HTS : Hid ((X.map textA).take (j + 1) = (X.map textA).take j ++ [textA x]) := Lib.hid (by
        rw [List.take_add_one, List.getElem?_map, hx]
        rfl)
      have HPJ : Hid (p ≤ 60) := Lib.hid (by
        have := HP.out
        have := List.length_take_le j (X.map textA)
        omega)
      obtain ⟨u, hu⟩ := boxA_new wr (.int .i64 x.kind) (.string ⟨x.name.toArray⟩) (.int .i64 x.n) (.slice A' x.X.length c') 24
      have U := Lib.hid u
      have HU := Lib.hid (below_newA HB.out hu)
      have HU1 := Lib.hid (below_newA HB1.out hu)
      have HXS : Hid (sizeA x ≤ 60) := Lib.hid (by
        have h1 : (X.map sizeA)[j]? = some (sizeA x) := by rw [List.getElem?_map, hx]; rfl
        have h2 := sum_take_succ h1
        have h3 := sum_take_le (X.map sizeA) (j + 1)
        have := HS.out
        omega)
      have HC := Lib.hid (HIH.out x (List.mem_of_getElem? hx) A' c' _ (AskAt.keep hu _ _ _ hch) (ok_kids HOK.out x (List.mem_of_getElem? hx)) HXS.out (HNT.out.below HU.out))
      unfold askV StrPost at HC
      have HO5 := Lib.hid (own_below HO3.out hu)
      have hj1 : (j : Int) < (X.length : Int) := by omega
      clear hx hch u hu
      generalize hbx : (⟨x.name.toArray⟩ : ByteArray) = bx at *
      clear hbx
      generalize x.kind = xk at *
      generalize x.n = xn at *
      generalize x.X.length = xm at *
      have HSV : Hid (sv (textA x) = .string ⟨(textA x).toArray⟩) := Lib.hid rfl
      generalize (⟨(textA x).toArray⟩ : ByteArray) = bt at *
      go_upto_region 6 with fail
      generalize wr.alloc (.cells #[.int .i64 xk, .string bx, .int .i64 xn, .slice A' xm c'] 24) = w5 at *
      obtain ⟨u1, u2, u3, u4⟩ := U.out
      go_wp2_with fail
      refine HC.out.mono ?_
      rintro e w6 ⟨rfl, hb6⟩
      have HB6 := Lib.hid (below_newA HU.out hb6)
      have HB61 := Lib.hid (below_newA HU1.out hb6)
      have HO6 := Lib.hid (own_below HO5.out hb6)
      have hsz6 : w1.heap.size ≤ w6.heap.size := HB61.out.size
      have hp1 : (p + 1) * 16 ≤ 140737488355328 := by have := HPJ.out; omega
      have hp2 : p + 1 ≤ 140737488355328 := by omega
      clear hb6 u1 u2 u3 u4
      go_wp2_with (at_builtin; refine wpList_push elStr w6 _ _ w1.heap.size A3 p c3 _ (.string bt) HO6.out rfl hsz6 hp1 hp2 rfl rfl rfl rfl ?_; intro A7 c7 w7 hown7 hb7)
      exact ⟨⟨j + 1, rfl, by omega, Lib.hid (by
        rw [HTS.out]
        refine ⟨A7, c7, p + 1, rfl, by rw [List.length_append, HP.out]; rfl, ?_, HB61.out.trans hb7⟩
        rw [List.map_append, List.map_singleton, HSV.out]
        exact hown7)⟩, measA hlt⟩
    · obtain rfl : j = X.length := by omega
      have HO4 : Hid (wr.ownsRow w1.heap.size 9 1 (.slice A3 p c3) p ((X.map textA).map sv)) := Lib.hid (by
        have h := HO3.out
        rw [List.take_of_length_le (by simp)] at h
        exact h)
      have HPL : Hid (X.length = p) := Lib.hid (by have := HP.out; rw [List.take_of_length_le (by simp), List.length_map] at this; exact this)
      have Y4 := Lib.hid (Y1.out.below HB1.out)
      have Z4 := Lib.hid (Z.out.below HB1.out)
      have HNW := Lib.hid (HNT.out.below HB.out)
      clear y1 y2 y3 y4 z1 z2 z3 z4 HP HO3 HIH
      obtain ⟨y1, y2, y3, y4⟩ := Y4.out
      obtain ⟨z1, z2, z3, z4⟩ := Z4.out
      go_upto_region 9 with fail
      have ws32 : Hid (True) := Lib.hid trivial
      by_cases h1 : (q : Int) = 1
      · have e1 : ((q : Int) == 1) = true := by simp [h1]
        have HT1 : Hid (T = s) := Lib.hid (by rw [HTA.out, h1]; rfl)
        clear h1
        go_wp2_with fail
        go_ret
        exact ⟨ret_str (HSB.out.trans HT1.out.symm), HB.out⟩
      have e1 : ((q : Int) == 1) = false := by simp [h1]
      have g1 := Lib.hid h1
      clear h1
      go_upto_region 11 with fail
      by_cases h2 : (q : Int) = 2
      · have e2 : ((q : Int) == 2) = true := by simp [h2]
        have HT1 : Hid (T = [42]) := Lib.hid (by rw [HTA.out, h2]; rfl)
        clear h2
        go_wp2_with fail
        go_ret
        exact ⟨ret_str HT1.out.symm, HB.out⟩
      have e2 : ((q : Int) == 2) = false := by simp [h2]
      have g2 := Lib.hid h2
      clear h2
      go_upto_region 13 with fail
      by_cases h3 : (q : Int) = 3
      · have e3 : ((q : Int) == 3) = true := by simp [h3]
        have HT1 : Hid (T = [36] ++ s) := Lib.hid (by rw [HTA.out, h3]; rfl)
        have hsl : Hid (s.length ≤ 60) := Lib.hid (name_len HOK.out)
        have hbl : bs.size ≤ 60 := by have h := hsl.out; rw [← HSB.out] at h; simpa using h
        clear h3
        go_wp2_with fail
        go_ret
        exact ⟨ret_str (by rw [ba_app, HSB.out]; exact HT1.out.symm), HB.out⟩
      have e3 : ((q : Int) == 3) = false := by simp [h3]
      have g3 := Lib.hid h3
      clear h3
      go_upto_region 15 with fail
      by_cases h4 : (q : Int) = 4
      · have e4 : ((q : Int) == 4) = true := by simp [h4]
        obtain ⟨xa, xb, hX⟩ := ok_two HOK.out (by omega)
        subst hX
        have hla : (textA xa).length ≤ 6000 := by have := textA_len xa (ok_kids HOK.out xa (by simp)); have := HS.out; simp at this; omega
        have hlb : (textA xb).length ≤ 6000 := by have := textA_len xb (ok_kids HOK.out xb (by simp)); have := HS.out; simp at this; omega
        have hsl := name_len HOK.out
        obtain rfl := HPL.out
        obtain ⟨g, rfl, c0, c1, hcap, hglt⟩ := own_cell2 (u := sv (textA xa)) (v := sv (textA xb)) HO4.out
        unfold sv at c0 c1
        have HTX : Hid (T = textK (q : Int) s n (textA xa) (textA xb)) := HTA
        generalize textA xa = ta at *
        generalize textA xb = tb at *
        generalize hba : (⟨ta.toArray⟩ : ByteArray) = ba at *
        generalize hbb : (⟨tb.toArray⟩ : ByteArray) = bb at *
        have HBA : Hid (ba.data.toList = ta) := Lib.hid (by rw [← hba])
        have HBB : Hid (bb.data.toList = tb) := Lib.hid (by rw [← hbb])
        have hla2 : ba.size ≤ 6000 := by rw [← hba]; exact hla
        have hlb2 : bb.size ≤ 6000 := by rw [← hbb]; exact hlb
        have hls2 : bs.size ≤ 60 := by have h := hsl; rw [← HSB.out] at h; simpa using h
        have HBAE := Lib.hid hba
        have HBBE := Lib.hid hbb
        clear hba hbb hla hlb hsl HO4 HPL
        have HT1 : Hid (T = [40, 108, 101, 116, 32] ++ s ++ [32, 61, 32] ++ ta ++ [32, 105, 110, 32] ++ tb ++ [41]) := Lib.hid (by rw [HTX.out, h4]; rfl)
        clear h4
        go_wp2_with fail
        go_quiet (fail)
        go_wp2_with fail
        go_ret
        exact ⟨ret_str (by simp only [ba_app, HSB.out, HBA.out, HBB.out]; exact HT1.out.symm), below_drewN HB.out _⟩
      have e4 : ((q : Int) == 4) = false := by simp [h4]
      have g4 := Lib.hid h4
      clear h4
      go_upto_region 17 with fail
      by_cases h5 : (q : Int) = 5
      · have e5 : ((q : Int) == 5) = true := by simp [h5]
        obtain ⟨xa, xb, hX⟩ := ok_two HOK.out (by omega)
        subst hX
        have hla : (textA xa).length ≤ 6000 := by have := textA_len xa (ok_kids HOK.out xa (by simp)); have := HS.out; simp at this; omega
        have hlb : (textA xb).length ≤ 6000 := by have := textA_len xb (ok_kids HOK.out xb (by simp)); have := HS.out; simp at this; omega
        have hsl := name_len HOK.out
        obtain rfl := HPL.out
        obtain ⟨g, rfl, c0, c1, hcap, hglt⟩ := own_cell2 (u := sv (textA xa)) (v := sv (textA xb)) HO4.out
        unfold sv at c0 c1
        have HTX : Hid (T = textK (q : Int) s n (textA xa) (textA xb)) := HTA
        generalize textA xa = ta at *
        generalize textA xb = tb at *
        generalize hba : (⟨ta.toArray⟩ : ByteArray) = ba at *
        generalize hbb : (⟨tb.toArray⟩ : ByteArray) = bb at *
        have HBA : Hid (ba.data.toList = ta) := Lib.hid (by rw [← hba])
        have HBB : Hid (bb.data.toList = tb) := Lib.hid (by rw [← hbb])
        have hla2 : ba.size ≤ 6000 := by rw [← hba]; exact hla
        have hlb2 : bb.size ≤ 6000 := by rw [← hbb]; exact hlb
        have hls2 : bs.size ≤ 60 := by have h := hsl; rw [← HSB.out] at h; simpa using h
        have HBAE := Lib.hid hba
        have HBBE := Lib.hid hbb
        clear hba hbb hla hlb hsl HO4 HPL
        have HT1 : Hid (T = [40] ++ ta ++ [32] ++ wd.data.toList ++ [32] ++ tb ++ [41]) := Lib.hid (by rw [HTX.out, HWD.out, h5]; rfl)
        have hwl : wd.size ≤ 5 := by have h : wd.data.toList.length ≤ 5 := (by rw [HWD.out, h5]; decide); simpa using h
        clear h5
        go_wp2_with fail
        go_quiet (fail)
        go_wp2_with fail
        go_ret
        exact ⟨ret_str (by simp only [ba_app, HBA.out, HBB.out]; exact HT1.out.symm), below_drewN HB.out _⟩
      have e5 : ((q : Int) == 5) = false := by simp [h5]
      have g5 := Lib.hid h5
      clear h5
      go_upto_region 18 with fail
      by_cases h6 : (q : Int) = 6
      · have e6 : ((q : Int) == 6) = true := by simp [h6]
        obtain ⟨xa, xb, hX⟩ := ok_two HOK.out (by omega)
        subst hX
        have hla : (textA xa).length ≤ 6000 := by have := textA_len xa (ok_kids HOK.out xa (by simp)); have := HS.out; simp at this; omega
        have hlb : (textA xb).length ≤ 6000 := by have := textA_len xb (ok_kids HOK.out xb (by simp)); have := HS.out; simp at this; omega
        have hsl := name_len HOK.out
        obtain rfl := HPL.out
        obtain ⟨g, rfl, c0, c1, hcap, hglt⟩ := own_cell2 (u := sv (textA xa)) (v := sv (textA xb)) HO4.out
        unfold sv at c0 c1
        have HTX : Hid (T = textK (q : Int) s n (textA xa) (textA xb)) := HTA
        generalize textA xa = ta at *
        generalize textA xb = tb at *
        generalize hba : (⟨ta.toArray⟩ : ByteArray) = ba at *
        generalize hbb : (⟨tb.toArray⟩ : ByteArray) = bb at *
        have HBA : Hid (ba.data.toList = ta) := Lib.hid (by rw [← hba])
        have HBB : Hid (bb.data.toList = tb) := Lib.hid (by rw [← hbb])
        have hla2 : ba.size ≤ 6000 := by rw [← hba]; exact hla
        have hlb2 : bb.size ≤ 6000 := by rw [← hbb]; exact hlb
        have hls2 : bs.size ≤ 60 := by have h := hsl; rw [← HSB.out] at h; simpa using h
        have HBAE := Lib.hid hba
        have HBBE := Lib.hid hbb
        clear hba hbb hla hlb hsl HO4 HPL
        have HT1 : Hid (T = [40] ++ ta ++ [32] ++ wd.data.toList ++ [32] ++ tb ++ [41]) := Lib.hid (by rw [HTX.out, HWD.out, h6]; rfl)
        have hwl : wd.size ≤ 5 := by have h : wd.data.toList.length ≤ 5 := (by rw [HWD.out, h6]; decide); simpa using h
        clear h6
        go_wp2_with fail
        go_quiet (fail)
        go_wp2_with fail
        go_ret
        exact ⟨ret_str (by simp only [ba_app, HBA.out, HBB.out]; exact HT1.out.symm), below_drewN HB.out _⟩
      have e6 : ((q : Int) == 6) = false := by simp [h6]
      have g6 := Lib.hid h6
      clear h6
      go_upto_region 19 with fail
      by_cases h7 : (q : Int) = 7
      · have e7 : ((q : Int) == 7) = true := by simp [h7]
        obtain ⟨xa, xb, hX⟩ := ok_two HOK.out (by omega)
        subst hX
        have hla : (textA xa).length ≤ 6000 := by have := textA_len xa (ok_kids HOK.out xa (by simp)); have := HS.out; simp at this; omega
        have hlb : (textA xb).length ≤ 6000 := by have := textA_len xb (ok_kids HOK.out xb (by simp)); have := HS.out; simp at this; omega
        have hsl := name_len HOK.out
        obtain rfl := HPL.out
        obtain ⟨g, rfl, c0, c1, hcap, hglt⟩ := own_cell2 (u := sv (textA xa)) (v := sv (textA xb)) HO4.out
        unfold sv at c0 c1
        have HTX : Hid (T = textK (q : Int) s n (textA xa) (textA xb)) := HTA
        generalize textA xa = ta at *
        generalize textA xb = tb at *
        generalize hba : (⟨ta.toArray⟩ : ByteArray) = ba at *
        generalize hbb : (⟨tb.toArray⟩ : ByteArray) = bb at *
        have HBA : Hid (ba.data.toList = ta) := Lib.hid (by rw [← hba])
        have HBB : Hid (bb.data.toList = tb) := Lib.hid (by rw [← hbb])
        have hla2 : ba.size ≤ 6000 := by rw [← hba]; exact hla
        have hlb2 : bb.size ≤ 6000 := by rw [← hbb]; exact hlb
        have hls2 : bs.size ≤ 60 := by have h := hsl; rw [← HSB.out] at h; simpa using h
        have HBAE := Lib.hid hba
        have HBBE := Lib.hid hbb
        clear hba hbb hla hlb hsl HO4 HPL
        have HT1 : Hid (T = [40] ++ ta ++ [32] ++ wd.data.toList ++ [32] ++ tb ++ [41]) := Lib.hid (by rw [HTX.out, HWD.out, h7]; rfl)
        have hwl : wd.size ≤ 5 := by have h : wd.data.toList.length ≤ 5 := (by rw [HWD.out, h7]; decide); simpa using h
        clear h7
        go_wp2_with fail
        go_quiet (fail)
        go_wp2_with fail
        go_ret
        exact ⟨ret_str (by simp only [ba_app, HBA.out, HBB.out]; exact HT1.out.symm), below_drewN HB.out _⟩
      have e7 : ((q : Int) == 7) = false := by simp [h7]
      have g7 := Lib.hid h7
      clear h7
      go_upto_region 21 with fail
      by_cases h15 : (q : Int) = 15
      · have e15 : ((q : Int) == 15) = true := by simp [h15]
        obtain ⟨xa, hX⟩ := ok_one HOK.out (by omega)
        subst hX
        have hla : (textA xa).length ≤ 6000 := by have := textA_len xa (ok_kids HOK.out xa (by simp)); have := HS.out; simp at this; omega
        have hsl := name_len HOK.out
        obtain rfl := HPL.out
        obtain ⟨g, rfl, c0, hcap, hglt⟩ := own_cell1 (u := sv (textA xa)) HO4.out
        replace HO4 : Hid (wr.ownsRow w1.heap.size 9 1 (.slice (some ⟨g, 0, none⟩) 1 c3) 1 [sv (textA xa)]) := HO4
        unfold sv at c0
        have HTX : Hid (T = textK (q : Int) s n (textA xa) []) := HTA
        generalize textA xa = ta at *
        generalize hba : (⟨ta.toArray⟩ : ByteArray) = ba at *
        have HBA : Hid (ba.data.toList = ta) := Lib.hid (by rw [← hba])
        have hla2 : ba.size ≤ 6000 := by rw [← hba]; exact hla
        have hls2 : bs.size ≤ 60 := by have h := hsl; rw [← HSB.out] at h; simpa using h
        have HBAE := Lib.hid hba
        clear hba hla hsl HPL
        have hn := ok_num15 (by have h := HOK.out; rw [h15] at h; exact h)
        have HT1 : Hid (T = kindA n ++ [40] ++ ta ++ [41]) := Lib.hid (by rw [HTX.out, h15]; rfl)
        obtain ⟨m1, m2, m3⟩ := (⟨HNW.out.k1, HNW.out.k2, HNW.out.k3⟩ : _ ∧ _ ∧ _)
        clear h15 HO4
        rcases (by omega : n = 1 ∨ n = 2 ∨ n = 3) with rfl | rfl | rfl
        all_goals
          go_wp2_with fail
          go_quiet (fail)
          go_wp2_with fail
          go_ret
          exact ⟨ret_str (by simp only [ba_app, HBA.out]; exact HT1.out.symm), below_drewN HB.out _⟩
      have e15 : ((q : Int) == 15) = false := by simp [h15]
      have g15 := Lib.hid h15
      clear h15
      go_upto_region 23 with fail
      by_cases h14 : (q : Int) = 14
      · have e14 : ((q : Int) == 14) = true := by simp [h14]
        obtain ⟨xa, hX⟩ := ok_one HOK.out (by omega)
        subst hX
        have hla : (textA xa).length ≤ 6000 := by have := textA_len xa (ok_kids HOK.out xa (by simp)); have := HS.out; simp at this; omega
        have hsl := name_len HOK.out
        obtain rfl := HPL.out
        obtain ⟨g, rfl, c0, hcap, hglt⟩ := own_cell1 (u := sv (textA xa)) HO4.out
        replace HO4 : Hid (wr.ownsRow w1.heap.size 9 1 (.slice (some ⟨g, 0, none⟩) 1 c3) 1 [sv (textA xa)]) := HO4
        unfold sv at c0
        have HTX : Hid (T = textK (q : Int) s n (textA xa) []) := HTA
        generalize textA xa = ta at *
        generalize hba : (⟨ta.toArray⟩ : ByteArray) = ba at *
        have HBA : Hid (ba.data.toList = ta) := Lib.hid (by rw [← hba])
        have hla2 : ba.size ≤ 6000 := by rw [← hba]; exact hla
        have hls2 : bs.size ≤ 60 := by have h := hsl; rw [← HSB.out] at h; simpa using h
        have HBAE := Lib.hid hba
        clear hba hla hsl HPL
        have HT1 : Hid (T = wd.data.toList ++ [40] ++ (s ++ [44, 32] ++ ta) ++ [41]) := Lib.hid (by rw [HTX.out, HWD.out, h14]; rfl)
        have hwl : wd.size ≤ 5 := by have h : wd.data.toList.length ≤ 5 := (by rw [HWD.out, h14]; decide); simpa using h
        have hta6 : ta.length ≤ 6000 := by have h := hla2; rw [← HBAE.out] at h; exact h
        have hs6 : s.length ≤ 60 := name_len HOK.out
        clear h14 HO4
        go_wp2_with fail
        go_region
        have hbk : Below wr.heap.size wr (wr.alloc (.cells #[.string bs, .string ba] 9)).drew := Below.drew (below_new (Below.refl _ _) _)
        have D0 : Hid ((wr.alloc (.cells #[.string bs, .string ba] 9)).drew.cell? ⟨wr.heap.size, 0, none⟩ = some (.string bs)) := Lib.hid (by show (wr.alloc _).cell? _ = _; rw [World.cell?_alloc_at _ _ _ _ rfl]; rfl)
        have D1 : Hid ((wr.alloc (.cells #[.string bs, .string ba] 9)).drew.cell? ⟨wr.heap.size, 1, none⟩ = some (.string ba)) := Lib.hid (by show (wr.alloc _).cell? _ = _; rw [World.cell?_alloc_at _ _ _ _ rfl]; rfl)
        generalize (wr.alloc (.cells #[.string bs, .string ba] 9)).drew = wk at *
        have HBK := Lib.hid hbk
        have HGL : Hid (wr.heap.size < wk.heap.size) := Lib.hid (lt_of_cell' D0.out)
        clear hbk y1 y2 y3 y4 z1 z2 z3 z4 c0
        go_wp2_with fail
        have HJQ : Hid (Lib.join (([bs, ba] : List ByteArray).map (·.data.toList)) (⟨#[44, 32]⟩ : ByteArray).data.toList = s ++ [44, 32] ++ ta) := Lib.hid (by simp only [List.map_cons, List.map_nil, HSB.out, HBA.out]; exact join_two _ _ _)
        have HCE : Hid (∀ W, Below wk.heap.size wk W → ∀ (j : Nat) (x : ByteArray), ([bs, ba] : List ByteArray)[j]? = some x → W.cell? ⟨wr.heap.size, 0 + j, none⟩ = some (.string x)) := Lib.hid (fun W hW j x hx => by
          match j, hx with
          | 0, hx => injection hx with hx; subst hx; exact cell_keptA D0.out hW
          | 1, hx => injection hx with hx; subst hx; exact cell_keptA D1.out hW
          | j + 2, hx => cases hx)
        have CJ := Lib.hid (fun W (hW : Below wk.heap.size wk W) => Tryd.strings_Join wr.heap.size 0 2 [bs, ba] ⟨#[44, 32]⟩ W (HCE.out W hW) (Nat.lt_of_lt_of_le HGL.out hW.size) (by simp) (Nat.le_refl _) (by rw [HJQ.out]; first | omega | (simp only [List.length_append, List.length_cons, List.length_nil]; omega)))
        rw [HJQ.out] at CJ
        generalize hbj : (⟨(s ++ [44, 32] ++ ta).toArray⟩ : ByteArray) = bj at CJ
        have HBJ : Hid (bj.data.toList = s ++ [44, 32] ++ ta) := Lib.hid (by rw [← hbj])
        have hbjl : bj.size ≤ 12100 := by have h : bj.data.toList.length ≤ 12100 := (by rw [HBJ.out]; first | omega | (simp only [List.length_append, List.length_cons, List.length_nil]; omega)); simpa using h
        clear hbj
        have hz1 : wd.size + 1 ≤ 9223372036854775807 := by omega
        have hz2 : wd.size + 1 + bj.size ≤ 9223372036854775807 := by omega
        have hz3 : wd.size + 1 + bj.size + 1 ≤ 9223372036854775807 := by omega
        have hz4 : ¬ 9223372036854775807 < wd.size + 1 := by omega
        have hz5 : ¬ 9223372036854775807 < wd.size + 1 + bj.size := by omega
        have hz6 : ¬ 9223372036854775807 < wd.size + 1 + bj.size + 1 := by omega
        have ZK := Lib.hid (Z4.out.below HBK.out)
        have HSL := Lib.hid (fun W (hW : Below wk.heap.size wk W) => (⟨(ZK.out.below hW).c4, hW⟩ : W.cell? ⟨BF, 3, none⟩ = some (.string wd) ∧ Below wk.heap.size wk W))
        have bd : Below wk.heap.size wk wk.drew := Below.drew (Below.refl _ _)
        go_region_held3 (fun W => W.cell? ⟨BF, 3, none⟩ = some (.string wd) ∧ Below wk.heap.size wk W)
          ((refine HSL.out _ ?_; first | assumption | exact Below.drew (by assumption)))
          ((go_at_call 94; (refine (CJ.out _ bd).mono ?_); rintro e u7 ⟨rfl, h7⟩; have b7 := below_then bd h7))
        have HBE := Lib.hid (below_newA (below_newA HB.out HBK.out) b7)
        clear b7 bd h7 HSL CJ HCE
        go_wp2_with fail
        go_ret
        exact ⟨ret_str (by simp only [ba_app, HBJ.out]; exact HT1.out.symm), HBE.out⟩
      have e14 : ((q : Int) == 14) = false := by simp [h14]
      have g14 := Lib.hid h14
      clear h14
      go_upto_region 25 with fail
      by_cases h10 : (q : Int) = 10
      · have e10 : ((q : Int) == 10) = true := by simp [h10]
        obtain ⟨xa, hX⟩ := ok_one HOK.out (by omega)
        subst hX
        have hla : (textA xa).length ≤ 6000 := by have := textA_len xa (ok_kids HOK.out xa (by simp)); have := HS.out; simp at this; omega
        have hsl := name_len HOK.out
        obtain rfl := HPL.out
        obtain ⟨g, rfl, c0, hcap, hglt⟩ := own_cell1 (u := sv (textA xa)) HO4.out
        replace HO4 : Hid (wr.ownsRow w1.heap.size 9 1 (.slice (some ⟨g, 0, none⟩) 1 c3) 1 [sv (textA xa)]) := HO4
        unfold sv at c0
        have HTX : Hid (T = textK (q : Int) s n (textA xa) []) := HTA
        generalize textA xa = ta at *
        generalize hba : (⟨ta.toArray⟩ : ByteArray) = ba at *
        have HBA : Hid (ba.data.toList = ta) := Lib.hid (by rw [← hba])
        have hla2 : ba.size ≤ 6000 := by rw [← hba]; exact hla
        have hls2 : bs.size ≤ 60 := by have h := hsl; rw [← HSB.out] at h; simpa using h
        have HBAE := Lib.hid hba
        clear hba hla hsl HPL
        have hn := ok_num HOK.out (by omega)
        have HT1 : Hid (T = wd.data.toList ++ [40] ++ (ta ++ [44, 32] ++ Lib.itoa n) ++ [41]) := Lib.hid (by rw [HTX.out, HWD.out, h10]; rfl)
        have hwl : wd.size ≤ 5 := by have h : wd.data.toList.length ≤ 5 := (by rw [HWD.out, h10]; decide); simpa using h
        have CI := Lib.hid (fun W (hW : NTab W) => ((Tryd.strconv_Itoa n (by omega) (by omega) W hW.p10).mono (by rintro e w' ⟨he, k, os, rfl⟩; exact ⟨he, Lib.below_grow _ _ (Nat.le_refl _) _ _⟩) : Calls Tryd.prog 93 #[.int .i64 n] W (fun e w' => e = .returned (.string ⟨(Lib.itoa n).toArray⟩) ∧ Below W.heap.size W w')))
        have hil := itoa_len hn.1 hn.2
        generalize hbi : (⟨(Lib.itoa n).toArray⟩ : ByteArray) = bi at CI
        have HBI : Hid (bi.data.toList = Lib.itoa n) := Lib.hid (by rw [← hbi])
        generalize Lib.itoa n = ti at *
        have hta6 : ta.length ≤ 6000 := by have h := hla2; rw [← HBAE.out] at h; exact h
        clear h10 hbi
        go_wp2_with fail
        refine (CI.out wr HNW.out).mono ?_
        rintro e w6 ⟨rfl, hb6⟩
        have HB61 := Lib.hid (below_newA HB1.out hb6)
        have HO6 := Lib.hid (own_below HO4.out hb6)
        have hsz6 : w1.heap.size ≤ w6.heap.size := HB61.out.size
        have HB6 := Lib.hid (below_newA HB.out hb6)
        clear hb6 y1 y2 y3 y4 z1 z2 z3 z4 c0
        go_wp2_with (at_builtin; refine wpList_push elStr w6 _ _ w1.heap.size (some ⟨g, 0, none⟩) 1 c3 _ (.string bi) HO6.out rfl hsz6 (by omega) (by omega) rfl rfl rfl rfl ?_; intro A7 c7 w7 hown7 hb7)
        obtain ⟨g7, rfl, d0, d1, hcap7, hglt7⟩ := own_cell2 (u := sv ta) (v := .string bi) hown7
        unfold sv at d0
        rw [HBAE.out] at d0
        have HBW7 := Lib.hid (HB61.out.trans hb7)
        have D0 := Lib.hid d0
        have D1 := Lib.hid d1
        clear hown7 hb7 d0 d1
        have HJQ : Hid (Lib.join (([ba, bi] : List ByteArray).map (·.data.toList)) (⟨#[44, 32]⟩ : ByteArray).data.toList = ta ++ [44, 32] ++ ti) := Lib.hid (by simp only [List.map_cons, List.map_nil, HBA.out, HBI.out]; exact join_two _ _ _)
        have HCE : Hid (∀ W, Below w7.heap.size w7 W → ∀ (j : Nat) (x : ByteArray), ([ba, bi] : List ByteArray)[j]? = some x → W.cell? ⟨g7, 0 + j, none⟩ = some (.string x)) := Lib.hid (fun W hW j x hx => by
          match j, hx with
          | 0, hx => injection hx with hx; subst hx; exact cell_keptA D0.out hW
          | 1, hx => injection hx with hx; subst hx; exact cell_keptA D1.out hW
          | j + 2, hx => cases hx)
        have CJ := Lib.hid (fun W (hW : Below w7.heap.size w7 W) => Tryd.strings_Join g7 0 c7 [ba, bi] ⟨#[44, 32]⟩ W (HCE.out W hW) (Nat.lt_of_lt_of_le hglt7 hW.size) (by simp) hcap7 (by rw [HJQ.out]; first | omega | (simp only [List.length_append, List.length_cons, List.length_nil]; omega)))
        rw [HJQ.out] at CJ
        generalize hbj : (⟨(ta ++ [44, 32] ++ ti).toArray⟩ : ByteArray) = bj at CJ
        have HBJ : Hid (bj.data.toList = ta ++ [44, 32] ++ ti) := Lib.hid (by rw [← hbj])
        have hbjl : bj.size ≤ 12100 := by have h : bj.data.toList.length ≤ 12100 := (by rw [HBJ.out]; first | omega | (simp only [List.length_append, List.length_cons, List.length_nil]; omega)); simpa using h
        clear hbj
        have hz1 : wd.size + 1 ≤ 9223372036854775807 := by omega
        have hz2 : wd.size + 1 + bj.size ≤ 9223372036854775807 := by omega
        have hz3 : wd.size + 1 + bj.size + 1 ≤ 9223372036854775807 := by omega
        have hz4 : ¬ 9223372036854775807 < wd.size + 1 := by omega
        have hz5 : ¬ 9223372036854775807 < wd.size + 1 + bj.size := by omega
        have hz6 : ¬ 9223372036854775807 < wd.size + 1 + bj.size + 1 := by omega
        have ZK := Lib.hid (Z.out.below HBW7.out)
        have HSL := Lib.hid (fun W (hW : Below w7.heap.size w7 W) => (⟨(ZK.out.below hW).c4, hW⟩ : W.cell? ⟨BF, 3, none⟩ = some (.string wd) ∧ Below w7.heap.size w7 W))
        have bd : Below w7.heap.size w7 w7.drew := Below.drew (Below.refl _ _)
        go_region_held3 (fun W => W.cell? ⟨BF, 3, none⟩ = some (.string wd) ∧ Below w7.heap.size w7 W)
          ((refine HSL.out _ ?_; first | assumption | exact Below.drew (by assumption)))
          ((go_at_call 94; (refine (CJ.out _ bd).mono ?_); rintro e u7 ⟨rfl, h7⟩; have b7 := below_then bd h7))
        have HBE := Lib.hid (below_newA (below_newA HZ.out HBW7.out) b7)
        clear b7 bd h7 HSL CJ HCE
        go_wp2_with fail
        go_ret
        exact ⟨ret_str (by simp only [ba_app, HBJ.out]; exact HT1.out.symm), HBE.out⟩
      have e10 : ((q : Int) == 10) = false := by simp [h10]
      have g10 := Lib.hid h10
      clear h10
      go_upto_region 26 with fail
      by_cases h11 : (q : Int) = 11
      · have e11 : ((q : Int) == 11) = true := by simp [h11]
        obtain ⟨xa, hX⟩ := ok_one HOK.out (by omega)
        subst hX
        have hla : (textA xa).length ≤ 6000 := by have := textA_len xa (ok_kids HOK.out xa (by simp)); have := HS.out; simp at this; omega
        have hsl := name_len HOK.out
        obtain rfl := HPL.out
        obtain ⟨g, rfl, c0, hcap, hglt⟩ := own_cell1 (u := sv (textA xa)) HO4.out
        replace HO4 : Hid (wr.ownsRow w1.heap.size 9 1 (.slice (some ⟨g, 0, none⟩) 1 c3) 1 [sv (textA xa)]) := HO4
        unfold sv at c0
        have HTX : Hid (T = textK (q : Int) s n (textA xa) []) := HTA
        generalize textA xa = ta at *
        generalize hba : (⟨ta.toArray⟩ : ByteArray) = ba at *
        have HBA : Hid (ba.data.toList = ta) := Lib.hid (by rw [← hba])
        have hla2 : ba.size ≤ 6000 := by rw [← hba]; exact hla
        have hls2 : bs.size ≤ 60 := by have h := hsl; rw [← HSB.out] at h; simpa using h
        have HBAE := Lib.hid hba
        clear hba hla hsl HPL
        have hn := ok_num HOK.out (by omega)
        have HT1 : Hid (T = wd.data.toList ++ [40] ++ (ta ++ [44, 32] ++ Lib.itoa n) ++ [41]) := Lib.hid (by rw [HTX.out, HWD.out, h11]; rfl)
        have hwl : wd.size ≤ 5 := by have h : wd.data.toList.length ≤ 5 := (by rw [HWD.out, h11]; decide); simpa using h
        have CI := Lib.hid (fun W (hW : NTab W) => ((Tryd.strconv_Itoa n (by omega) (by omega) W hW.p10).mono (by rintro e w' ⟨he, k, os, rfl⟩; exact ⟨he, Lib.below_grow _ _ (Nat.le_refl _) _ _⟩) : Calls Tryd.prog 93 #[.int .i64 n] W (fun e w' => e = .returned (.string ⟨(Lib.itoa n).toArray⟩) ∧ Below W.heap.size W w')))
        have hil := itoa_len hn.1 hn.2
        generalize hbi : (⟨(Lib.itoa n).toArray⟩ : ByteArray) = bi at CI
        have HBI : Hid (bi.data.toList = Lib.itoa n) := Lib.hid (by rw [← hbi])
        generalize Lib.itoa n = ti at *
        have hta6 : ta.length ≤ 6000 := by have h := hla2; rw [← HBAE.out] at h; exact h
        clear h11 hbi
        go_wp2_with fail
        refine (CI.out wr HNW.out).mono ?_
        rintro e w6 ⟨rfl, hb6⟩
        have HB61 := Lib.hid (below_newA HB1.out hb6)
        have HO6 := Lib.hid (own_below HO4.out hb6)
        have hsz6 : w1.heap.size ≤ w6.heap.size := HB61.out.size
        have HB6 := Lib.hid (below_newA HB.out hb6)
        clear hb6 y1 y2 y3 y4 z1 z2 z3 z4 c0
        go_wp2_with (at_builtin; refine wpList_push elStr w6 _ _ w1.heap.size (some ⟨g, 0, none⟩) 1 c3 _ (.string bi) HO6.out rfl hsz6 (by omega) (by omega) rfl rfl rfl rfl ?_; intro A7 c7 w7 hown7 hb7)
        obtain ⟨g7, rfl, d0, d1, hcap7, hglt7⟩ := own_cell2 (u := sv ta) (v := .string bi) hown7
        unfold sv at d0
        rw [HBAE.out] at d0
        have HBW7 := Lib.hid (HB61.out.trans hb7)
        have D0 := Lib.hid d0
        have D1 := Lib.hid d1
        clear hown7 hb7 d0 d1
        have HJQ : Hid (Lib.join (([ba, bi] : List ByteArray).map (·.data.toList)) (⟨#[44, 32]⟩ : ByteArray).data.toList = ta ++ [44, 32] ++ ti) := Lib.hid (by simp only [List.map_cons, List.map_nil, HBA.out, HBI.out]; exact join_two _ _ _)
        have HCE : Hid (∀ W, Below w7.heap.size w7 W → ∀ (j : Nat) (x : ByteArray), ([ba, bi] : List ByteArray)[j]? = some x → W.cell? ⟨g7, 0 + j, none⟩ = some (.string x)) := Lib.hid (fun W hW j x hx => by
          match j, hx with
          | 0, hx => injection hx with hx; subst hx; exact cell_keptA D0.out hW
          | 1, hx => injection hx with hx; subst hx; exact cell_keptA D1.out hW
          | j + 2, hx => cases hx)
        have CJ := Lib.hid (fun W (hW : Below w7.heap.size w7 W) => Tryd.strings_Join g7 0 c7 [ba, bi] ⟨#[44, 32]⟩ W (HCE.out W hW) (Nat.lt_of_lt_of_le hglt7 hW.size) (by simp) hcap7 (by rw [HJQ.out]; first | omega | (simp only [List.length_append, List.length_cons, List.length_nil]; omega)))
        rw [HJQ.out] at CJ
        generalize hbj : (⟨(ta ++ [44, 32] ++ ti).toArray⟩ : ByteArray) = bj at CJ
        have HBJ : Hid (bj.data.toList = ta ++ [44, 32] ++ ti) := Lib.hid (by rw [← hbj])
        have hbjl : bj.size ≤ 12100 := by have h : bj.data.toList.length ≤ 12100 := (by rw [HBJ.out]; first | omega | (simp only [List.length_append, List.length_cons, List.length_nil]; omega)); simpa using h
        clear hbj
        have hz1 : wd.size + 1 ≤ 9223372036854775807 := by omega
        have hz2 : wd.size + 1 + bj.size ≤ 9223372036854775807 := by omega
        have hz3 : wd.size + 1 + bj.size + 1 ≤ 9223372036854775807 := by omega
        have hz4 : ¬ 9223372036854775807 < wd.size + 1 := by omega
        have hz5 : ¬ 9223372036854775807 < wd.size + 1 + bj.size := by omega
        have hz6 : ¬ 9223372036854775807 < wd.size + 1 + bj.size + 1 := by omega
        have ZK := Lib.hid (Z.out.below HBW7.out)
        have HSL := Lib.hid (fun W (hW : Below w7.heap.size w7 W) => (⟨(ZK.out.below hW).c4, hW⟩ : W.cell? ⟨BF, 3, none⟩ = some (.string wd) ∧ Below w7.heap.size w7 W))
        have bd : Below w7.heap.size w7 w7.drew := Below.drew (Below.refl _ _)
        go_region_held3 (fun W => W.cell? ⟨BF, 3, none⟩ = some (.string wd) ∧ Below w7.heap.size w7 W)
          ((refine HSL.out _ ?_; first | assumption | exact Below.drew (by assumption)))
          ((go_at_call 94; (refine (CJ.out _ bd).mono ?_); rintro e u7 ⟨rfl, h7⟩; have b7 := below_then bd h7))
        have HBE := Lib.hid (below_newA (below_newA HZ.out HBW7.out) b7)
        clear b7 bd h7 HSL CJ HCE
        go_wp2_with fail
        go_ret
        exact ⟨ret_str (by simp only [ba_app, HBJ.out]; exact HT1.out.symm), HBE.out⟩
      have e11 : ((q : Int) == 11) = false := by simp [h11]
      have g11 := Lib.hid h11
      clear h11
      go_upto_region 28 with fail
      have h89 : ((q : Int) = 8 ∨ (q : Int) = 9) ∨ ((q : Int) = 12 ∨ (q : Int) = 13) := by have := g1.out; have := g2.out; have := g3.out; have := g4.out; have := g5.out; have := g6.out; have := g7.out; have := g10.out; have := g11.out; have := g14.out; have := g15.out; omega
      rcases h89 with h89 | h89
      · obtain ⟨xa, hX⟩ := ok_one HOK.out (by omega)
        subst hX
        have hla : (textA xa).length ≤ 6000 := by have := textA_len xa (ok_kids HOK.out xa (by simp)); have := HS.out; simp at this; omega
        have hsl := name_len HOK.out
        obtain rfl := HPL.out
        obtain ⟨g, rfl, c0, hcap, hglt⟩ := own_cell1 (u := sv (textA xa)) HO4.out
        replace HO4 : Hid (wr.ownsRow w1.heap.size 9 1 (.slice (some ⟨g, 0, none⟩) 1 c3) 1 [sv (textA xa)]) := HO4
        unfold sv at c0
        have HTX : Hid (T = textK (q : Int) s n (textA xa) []) := HTA
        generalize textA xa = ta at *
        generalize hba : (⟨ta.toArray⟩ : ByteArray) = ba at *
        have HBA : Hid (ba.data.toList = ta) := Lib.hid (by rw [← hba])
        have hla2 : ba.size ≤ 6000 := by rw [← hba]; exact hla
        have hls2 : bs.size ≤ 60 := by have h := hsl; rw [← HSB.out] at h; simpa using h
        have HBAE := Lib.hid hba
        clear hba hla hsl HPL
        have HT1 : Hid (T = wd.data.toList ++ [40] ++ ta ++ [41]) := Lib.hid (by rw [HTX.out, HWD.out]; rcases h89 with h | h <;> rw [h] <;> rfl)
        have hwl : wd.size ≤ 5 := by have h : wd.data.toList.length ≤ 5 := (by rw [HWD.out]; rcases h89 with h | h <;> rw [h] <;> decide); simpa using h
        have hta6 : ta.length ≤ 6000 := by have h := hla2; rw [← HBAE.out] at h; exact h
        have D0 := Lib.hid c0
        have HGL := Lib.hid hglt
        clear h89 HO4 y1 y2 y3 y4 z1 z2 z3 z4 c0
        have HJQ : Hid (Lib.join (([ba] : List ByteArray).map (·.data.toList)) (⟨#[44, 32]⟩ : ByteArray).data.toList = ta) := Lib.hid (by simp only [List.map_cons, List.map_nil, HBA.out]; exact join_one' _ _)
        have HCE : Hid (∀ W, Below wr.heap.size wr W → ∀ (j : Nat) (x : ByteArray), ([ba] : List ByteArray)[j]? = some x → W.cell? ⟨g, 0 + j, none⟩ = some (.string x)) := Lib.hid (fun W hW j x hx => by
          match j, hx with
          | 0, hx => injection hx with hx; subst hx; exact cell_keptA D0.out hW
          | j + 1, hx => cases hx)
        have CJ := Lib.hid (fun W (hW : Below wr.heap.size wr W) => Tryd.strings_Join g 0 c3 [ba] ⟨#[44, 32]⟩ W (HCE.out W hW) (Nat.lt_of_lt_of_le HGL.out hW.size) (by simp) hcap (by rw [HJQ.out]; first | omega | (simp only [List.length_append, List.length_cons, List.length_nil]; omega)))
        rw [HJQ.out] at CJ
        generalize hbj : (⟨(ta).toArray⟩ : ByteArray) = bj at CJ
        have HBJ : Hid (bj.data.toList = ta) := Lib.hid (by rw [← hbj])
        have hbjl : bj.size ≤ 12100 := by have h : bj.data.toList.length ≤ 12100 := (by rw [HBJ.out]; first | omega | (simp only [List.length_append, List.length_cons, List.length_nil]; omega)); simpa using h
        clear hbj
        have hz1 : wd.size + 1 ≤ 9223372036854775807 := by omega
        have hz2 : wd.size + 1 + bj.size ≤ 9223372036854775807 := by omega
        have hz3 : wd.size + 1 + bj.size + 1 ≤ 9223372036854775807 := by omega
        have hz4 : ¬ 9223372036854775807 < wd.size + 1 := by omega
        have hz5 : ¬ 9223372036854775807 < wd.size + 1 + bj.size := by omega
        have hz6 : ¬ 9223372036854775807 < wd.size + 1 + bj.size + 1 := by omega
        have ZK := Lib.hid (Z4.out)
        have HSL := Lib.hid (fun W (hW : Below wr.heap.size wr W) => (⟨(ZK.out.below hW).c4, hW⟩ : W.cell? ⟨BF, 3, none⟩ = some (.string wd) ∧ Below wr.heap.size wr W))
        have bd : Below wr.heap.size wr wr.drew := Below.drew (Below.refl _ _)
        go_region_held3 (fun W => W.cell? ⟨BF, 3, none⟩ = some (.string wd) ∧ Below wr.heap.size wr W)
          ((refine HSL.out _ ?_; first | assumption | exact Below.drew (by assumption)))
          ((go_at_call 94; (refine (CJ.out _ bd).mono ?_); rintro e u7 ⟨rfl, h7⟩; have b7 := below_then bd h7))
        have HBE := Lib.hid (below_newA (HB.out) b7)
        clear b7 bd h7 HSL CJ HCE
        go_wp2_with fail
        go_ret
        exact ⟨ret_str (by simp only [ba_app, HBJ.out]; exact HT1.out.symm), HBE.out⟩
      · obtain ⟨xa, xb, hX⟩ := ok_two HOK.out (by omega)
        subst hX
        have hla : (textA xa).length ≤ 6000 := by have := textA_len xa (ok_kids HOK.out xa (by simp)); have := HS.out; simp at this; omega
        have hlb : (textA xb).length ≤ 6000 := by have := textA_len xb (ok_kids HOK.out xb (by simp)); have := HS.out; simp at this; omega
        have hsl := name_len HOK.out
        obtain rfl := HPL.out
        obtain ⟨g, rfl, c0, c1, hcap, hglt⟩ := own_cell2 (u := sv (textA xa)) (v := sv (textA xb)) HO4.out
        unfold sv at c0 c1
        have HTX : Hid (T = textK (q : Int) s n (textA xa) (textA xb)) := HTA
        generalize textA xa = ta at *
        generalize textA xb = tb at *
        generalize hba : (⟨ta.toArray⟩ : ByteArray) = ba at *
        generalize hbb : (⟨tb.toArray⟩ : ByteArray) = bb at *
        have HBA : Hid (ba.data.toList = ta) := Lib.hid (by rw [← hba])
        have HBB : Hid (bb.data.toList = tb) := Lib.hid (by rw [← hbb])
        have hla2 : ba.size ≤ 6000 := by rw [← hba]; exact hla
        have hlb2 : bb.size ≤ 6000 := by rw [← hbb]; exact hlb
        have hls2 : bs.size ≤ 60 := by have h := hsl; rw [← HSB.out] at h; simpa using h
        have HBAE := Lib.hid hba
        have HBBE := Lib.hid hbb
        clear hba hbb hla hlb hsl HO4 HPL
        have HT1 : Hid (T = wd.data.toList ++ [40] ++ (ta ++ [44, 32] ++ tb) ++ [41]) := Lib.hid (by rw [HTX.out, HWD.out]; rcases h89 with h | h <;> rw [h] <;> rfl)
        have hwl : wd.size ≤ 5 := by have h : wd.data.toList.length ≤ 5 := (by rw [HWD.out]; rcases h89 with h | h <;> rw [h] <;> decide); simpa using h
        have hta6 : ta.length ≤ 6000 := by have h := hla2; rw [← HBAE.out] at h; exact h
        have htb6 : tb.length ≤ 6000 := by have h := hlb2; rw [← HBBE.out] at h; exact h
        have D0 := Lib.hid c0
        have D1 := Lib.hid c1
        have HGL := Lib.hid hglt
        clear h89 y1 y2 y3 y4 z1 z2 z3 z4 c0 c1
        have HJQ : Hid (Lib.join (([ba, bb] : List ByteArray).map (·.data.toList)) (⟨#[44, 32]⟩ : ByteArray).data.toList = ta ++ [44, 32] ++ tb) := Lib.hid (by simp only [List.map_cons, List.map_nil, HBA.out, HBB.out]; exact join_two _ _ _)
        have HCE : Hid (∀ W, Below wr.heap.size wr W → ∀ (j : Nat) (x : ByteArray), ([ba, bb] : List ByteArray)[j]? = some x → W.cell? ⟨g, 0 + j, none⟩ = some (.string x)) := Lib.hid (fun W hW j x hx => by
          match j, hx with
          | 0, hx => injection hx with hx; subst hx; exact cell_keptA D0.out hW
          | 1, hx => injection hx with hx; subst hx; exact cell_keptA D1.out hW
          | j + 2, hx => cases hx)
        have CJ := Lib.hid (fun W (hW : Below wr.heap.size wr W) => Tryd.strings_Join g 0 c3 [ba, bb] ⟨#[44, 32]⟩ W (HCE.out W hW) (Nat.lt_of_lt_of_le HGL.out hW.size) (by simp) hcap (by rw [HJQ.out]; first | omega | (simp only [List.length_append, List.length_cons, List.length_nil]; omega)))
        rw [HJQ.out] at CJ
        generalize hbj : (⟨(ta ++ [44, 32] ++ tb).toArray⟩ : ByteArray) = bj at CJ
        have HBJ : Hid (bj.data.toList = ta ++ [44, 32] ++ tb) := Lib.hid (by rw [← hbj])
        have hbjl : bj.size ≤ 12100 := by have h : bj.data.toList.length ≤ 12100 := (by rw [HBJ.out]; first | omega | (simp only [List.length_append, List.length_cons, List.length_nil]; omega)); simpa using h
        clear hbj
        have hz1 : wd.size + 1 ≤ 9223372036854775807 := by omega
        have hz2 : wd.size + 1 + bj.size ≤ 9223372036854775807 := by omega
        have hz3 : wd.size + 1 + bj.size + 1 ≤ 9223372036854775807 := by omega
        have hz4 : ¬ 9223372036854775807 < wd.size + 1 := by omega
        have hz5 : ¬ 9223372036854775807 < wd.size + 1 + bj.size := by omega
        have hz6 : ¬ 9223372036854775807 < wd.size + 1 + bj.size + 1 := by omega
        have ZK := Lib.hid (Z4.out)
        have HSL := Lib.hid (fun W (hW : Below wr.heap.size wr W) => (⟨(ZK.out.below hW).c4, hW⟩ : W.cell? ⟨BF, 3, none⟩ = some (.string wd) ∧ Below wr.heap.size wr W))
        have bd : Below wr.heap.size wr wr.drew := Below.drew (Below.refl _ _)
        go_region_held3 (fun W => W.cell? ⟨BF, 3, none⟩ = some (.string wd) ∧ Below wr.heap.size wr W)
          ((refine HSL.out _ ?_; first | assumption | exact Below.drew (by assumption)))
          ((go_at_call 94; (refine (CJ.out _ bd).mono ?_); rintro e u7 ⟨rfl, h7⟩; have b7 := below_then bd h7))
        have HBE := Lib.hid (below_newA (HB.out) b7)
        clear b7 bd h7 HSL CJ HCE
        go_wp2_with fail
        go_ret
        exact ⟨ret_str (by simp only [ba_app, HBJ.out]; exact HT1.out.symm), HBE.out⟩
end Go.Proofs.YtcodncddaemhlaaDoor
