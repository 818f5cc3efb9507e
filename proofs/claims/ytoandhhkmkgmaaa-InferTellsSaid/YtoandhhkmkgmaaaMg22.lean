/- Some of the proof's texts, merged; each one's own words stand ahead of it. -/
import Derived.Test.YtoandhhkmkgmaaaMacPlain
import Derived.Test.YtoandhhkmkgmaaaMg4
import Derived.Test.YtoandhhkmkgmaaaMg11
import Derived.Test.YtoandhhkmkgmaaaOwnAt
import Derived.Test.YtoandhhkmkgmaaaMg15
/- Contract: macro.parse against any two callbacks that keep a relation I between the pieces handed on so far and the world. Texts shorter than 2^32 - 15. -/
namespace Go.Proofs.Ytoandhhkmkgmaaa
open Go.RowKit

theorem mCut_any (s : List UInt8) (c : UInt8) (m : Int) (w : World) (hs : s.length < 4294967281) (hm : w.cell? ⟨0, 0, none⟩ = some (.int .i64 m)) :
    Calls Try.prog 61 #[sv s, .string ⟨#[c]⟩] w fun e w' => e = .returned (.tuple #[sv (Lib.cut s [c]).1, sv (Lib.cut s [c]).2.1, .bool (Lib.cut s [c]).2.2]) ∧ ∃ n, w' = w.drewN n :=
  Try.strings_Cut ⟨s.toArray⟩ ⟨#[c]⟩ m w hs hm
theorem mPre_any (s : List UInt8) (c : UInt8) (w : World) :
    Calls Try.prog 62 #[sv s, .string ⟨#[c]⟩] w fun e w' => e = .returned (.tuple #[sv (Lib.trimPrefix s [c]), .bool (Lib.hasPrefix s [c])]) ∧ w = w' :=
  (Try.strings_CutPrefix ⟨s.toArray⟩ ⟨#[c]⟩ w).mono fun _ _ h => ⟨h.1, h.2.symm⟩
theorem nameErr_ok (s : List UInt8) : (nameErr s = 0 ↔ goodName s = true) := by
  unfold nameErr
  cases goodName s <;> simp

/-- What the callbacks of a parse keep. -/
structure KeepM (prog : Program) (g h : FuncId) (lg lh : Array Value) (N M : Nat) (full : List PieceM) (I : List PieceM → World → Prop) : Prop where
  cell : ∀ ls W, I ls W → ∃ m, W.cell? ⟨0, 0, none⟩ = some (.int .i64 m)
  draws : ∀ ls W n, I ls W → I ls (W.drewN n)
  text : ∀ ls x W, x.length ≤ N → ls.length ≤ M → I ls W → Calls prog g (#[sv x] ++ lg) W fun e W' => e = .returned (.tuple #[]) ∧ I (ls ++ [(false, x)]) W'
  name : ∀ ls x W, goodName x = true → ls.length ≤ M → (∃ r, ls ++ (true, x) :: r = full) → I ls W → Calls prog h (#[sv x] ++ lh) W fun e W' => e = .returned (.tuple #[]) ∧ I (ls ++ [(true, x)]) W'
theorem parse_end {s : List UInt8} (h : (Lib.cut s [36]).2.2 = false) : parseM s = ([(false, (Lib.cut s [36]).1)], true) := by rw [parseM_eq, if_pos h]
theorem parse_two {s : List UInt8} (h : (Lib.cut s [36]).2.2 = true) (h2 : Lib.hasPrefix (Lib.cut s [36]).2.1 [36] = true) : parseM s = ((false, (Lib.cut s [36]).1) :: (false, [36]) :: (parseM (Lib.trimPrefix (Lib.cut s [36]).2.1 [36])).1, (parseM (Lib.trimPrefix (Lib.cut s [36]).2.1 [36])).2) := by
  rw [parseM_eq, if_neg (by rw [h]; decide), if_pos h2]
theorem parse_bad {s : List UInt8} (h : (Lib.cut s [36]).2.2 = true) (h2 : Lib.hasPrefix (Lib.cut s [36]).2.1 [36] = false) (h3 : ¬ (Lib.hasPrefix (Lib.cut (Lib.cut s [36]).2.1 [41]).1 [40] = true ∧ (Lib.cut (Lib.cut s [36]).2.1 [41]).2.2 = true ∧ goodName (Lib.trimPrefix (Lib.cut (Lib.cut s [36]).2.1 [41]).1 [40]) = true)) : parseM s = ([(false, (Lib.cut s [36]).1)], false) := by
  rw [parseM_eq, if_neg (by rw [h]; decide), if_neg (by rw [h2]; decide), if_neg h3]
theorem parse_name {s : List UInt8} (h : (Lib.cut s [36]).2.2 = true) (h2 : Lib.hasPrefix (Lib.cut s [36]).2.1 [36] = false) (h3 : Lib.hasPrefix (Lib.cut (Lib.cut s [36]).2.1 [41]).1 [40] = true ∧ (Lib.cut (Lib.cut s [36]).2.1 [41]).2.2 = true ∧ goodName (Lib.trimPrefix (Lib.cut (Lib.cut s [36]).2.1 [41]).1 [40]) = true) :
    parseM s = ((false, (Lib.cut s [36]).1) :: (true, Lib.trimPrefix (Lib.cut (Lib.cut s [36]).2.1 [41]).1 [40]) :: (parseM (Lib.cut (Lib.cut s [36]).2.1 [41]).2.1).1, (parseM (Lib.cut (Lib.cut s [36]).2.1 [41]).2.1).2) := by
  rw [parseM_eq, if_neg (by rw [h]; decide), if_neg (by rw [h2]; decide), if_pos h3]
/-- What is still to be handed on. -/
structure MidM (s : List UInt8) (ls0 : List PieceM) (x : List UInt8) (ls : List PieceM) : Prop where
  short : x.length ≤ s.length
  few : ls.length + 2 * x.length ≤ ls0.length + 2 * s.length
  pieces : ls ++ (parseM x).1 = ls0 ++ (parseM s).1
  ok : (parseM x).2 = (parseM s).2
def lenS : Value → Nat
  | .string b => b.size
  | _ => 0

set_option maxHeartbeats 1000000 in
theorem mParse_any (g h : FuncId) (lg lh : Array Value) (eg : ∀ args w, (callFunc g args).run Try.prog w = .ok (.enter g args) w) (eh : ∀ args w, (callFunc h args).run Try.prog w = .ok (.enter h args) w)
    (s : List UInt8) (I : List PieceM → World → Prop) (ls0 : List PieceM) (hK : KeepM Try.prog g h lg lh (s.length + 1) (ls0.length + 2 * s.length + 1) (ls0 ++ (parseM s).1) I) (w : World) (hI : I ls0 w) (hl : s.length < 4294967281) :
    Calls Try.prog 30 #[sv s, .func (.func g) #[] lg, .func (.func h) #[] lh] w fun e w' => e = .returned (.bool (parseM s).2) ∧ I (ls0 ++ (parseM s).1) w' := by
  have HK := Lib.hid hK
  have HI := Lib.hid hI
  have HL := Lib.hid hl
  clear hK hI hl
  go_enter Try.func30, Try.ntmps30
  go_wp2_with fail
  go_loopw [0, 7, 8, 9, 10, 11, 12, 13, 14, 15] (fun v _ _ _ _ _ _ _ _ _ wr => ∃ (x : List UInt8) (ls : List PieceM), v = sv x ∧ Hid (MidM s ls0 x ls) ∧ Hid (I ls wr)) (fun v _ _ _ _ _ _ _ _ _ _ => lenS v)
  case atStart => exact ⟨s, ls0, rfl, Lib.hid ⟨Nat.le_refl _, Nat.le_refl _, rfl, rfl⟩, HI⟩
  case round =>
    obtain ⟨x, ls, rfl, HM, HW⟩ := hrel
    obtain ⟨m, hm⟩ := HK.out.cell _ _ HW.out
    have H1 := Lib.hid (mCut_any x 36 m wr (by have := HM.out.short; have := HL.out; omega) hm)
    clear hm
    obtain ⟨a, r, mr, hc⟩ : ∃ a r mr, Lib.cut x [36] = (a, r, mr) := ⟨_, _, _, rfl⟩
    rw [hc] at H1
    have hca := cut_len x 36
    have hcl := fun h => cut_less (s := x) (c := 36) h
    have hpe := fun h => parse_end (s := x) h
    have hpt := fun h h2 => parse_two (s := x) h h2
    have hpb := fun h h2 h3 => parse_bad (s := x) h h2 h3
    have hpn := fun h h2 h3 => parse_name (s := x) h h2 h3
    rw [hc] at hca hcl hpe hpt hpb hpn
    have HCA := Lib.hid hca
    have HCL := Lib.hid hcl
    have HPE := Lib.hid hpe
    have HPT := Lib.hid hpt
    have HPB := Lib.hid hpb
    have HPN := Lib.hid hpn
    clear hca hcl hpe hpt hpb hpn hc
    cases mr with
    | false =>
      have HPE2 := Lib.hid (HPE.out rfl)
      clear HPE HPT HPB HPN HCL
      go_wp2_with fail
      refine H1.out.mono ?_
      rintro e w1 ⟨rfl, n1, rfl⟩
      have H2 := Lib.hid (HK.out.text ls a (wr.drewN n1) (by have := HCA.out.1; have := HM.out.short; omega) (by have := HM.out.few; omega) (HK.out.draws _ _ n1 HW.out))
      go_wp2_with fail
      refine H2.out.mono ?_
      rintro e w2 ⟨rfl, h2⟩
      have HI2 := Lib.hid h2
      clear h2
      go_wp2_with fail
      go_ret
      have hp := HM.out.pieces
      have ho := HM.out.ok
      rw [HPE2.out] at hp ho
      exact ⟨ret_bool ho, hp ▸ HI2.out⟩
    | true =>
      have hlt : r.length < x.length := HCL.out rfl
      have HLT := Lib.hid hlt
      have hpt := HPT.out rfl
      have hpb := HPB.out rfl
      have hpn := HPN.out rfl
      clear hlt HCL HPE HPT HPB HPN
      have H4 := Lib.hid (fun W => mPre_any r 36 W)
      cases hq : Lib.hasPrefix r [36] with
      | true =>
        have HPT := Lib.hid (hpt hq)
        rw [hq] at H4
        clear hq hpt hpb hpn
        go_wp2_with fail
        refine H1.out.mono ?_
        rintro e w1 ⟨rfl, n1, rfl⟩
        have H2 := Lib.hid (HK.out.text ls a (wr.drewN n1) (by have := HCA.out.1; have := HM.out.short; omega) (by have := HM.out.few; omega) (HK.out.draws _ _ n1 HW.out))
        go_wp2_with fail
        refine H2.out.mono ?_
        rintro e w2 ⟨rfl, h2⟩
        have HI2 := Lib.hid h2
        clear h2
        go_wp2_with fail
        refine (H4.out _).mono ?_
        rintro e w3 ⟨rfl, rfl⟩
        have H5 := Lib.hid (HK.out.text (ls ++ [(false, a)]) [36] w2 (by simp) (by have := HM.out.few; simp; omega) HI2.out)
        go_wp2_with fail
        refine H5.out.mono ?_
        rintro e w3 ⟨rfl, h3⟩
        have HI3 := Lib.hid h3
        clear h3
        go_wp2_with fail
        go_roundw
        case rel => exact ⟨Lib.trimPrefix r [36], ls ++ [(false, a)] ++ [(false, [36])], rfl, Lib.hid ⟨by have := trimP_len r [36]; have := HLT.out; have := HM.out.short; omega, by have := trimP_len r [36]; have := HLT.out; have := HM.out.few; simp; omega, by have hp := HM.out.pieces; rw [HPT.out] at hp; rw [← hp]; simp, by have ho := HM.out.ok; rw [HPT.out] at ho; exact ho⟩, HI3⟩
        case measure => exact show (Lib.trimPrefix r [36]).length < x.length from by have := trimP_len r [36]; have := HLT.out; omega
      | false =>
        rw [hq] at H4
        have HPB := Lib.hid (fun h3 => hpb hq h3)
        have HPN := Lib.hid (fun h3 => hpn hq h3)
        clear hq hpt hpb hpn
        go_wp2_with fail
        refine H1.out.mono ?_
        rintro e w1 ⟨rfl, n1, rfl⟩
        have H2 := Lib.hid (HK.out.text ls a (wr.drewN n1) (by have := HCA.out.1; have := HM.out.short; omega) (by have := HM.out.few; omega) (HK.out.draws _ _ n1 HW.out))
        go_wp2_with fail
        refine H2.out.mono ?_
        rintro e w2 ⟨rfl, h2⟩
        have HI2 := Lib.hid h2
        clear h2
        go_wp2_with fail
        refine (H4.out _).mono ?_
        rintro e w3 ⟨rfl, rfl⟩
        obtain ⟨m2, hm2⟩ := HK.out.cell _ _ HI2.out
        have H6 := Lib.hid (mCut_any r 41 m2 w2 (by have := HLT.out; have := HM.out.short; have := HL.out; omega) hm2)
        clear hm2
        have hcb := cut_len r 41
        obtain ⟨b, t, mc, hd⟩ : ∃ b t mc, Lib.cut r [41] = (b, t, mc) := ⟨_, _, _, rfl⟩
        have hpb := HPB.out
        have hpn := HPN.out
        rw [hd] at H6 hcb
        simp only [hd] at hpb hpn
        have HCB := Lib.hid hcb
        have HPB2 := Lib.hid hpb
        have HPN2 := Lib.hid hpn
        clear hcb hpb hpn hd HPB HPN
        go_wp2_with fail
        refine H6.out.mono ?_
        rintro e w3 ⟨rfl, n3, rfl⟩
        have H7 := Lib.hid (fun W => mPre_any b 40 W)
        cases ho : Lib.hasPrefix b [40] with
        | false =>
          rw [ho] at H7
          have HPE := Lib.hid (HPB2.out (by rw [ho]; simp))
          clear ho HPB2 HPN2
          go_wp2_with fail
          refine (H7.out _).mono ?_
          rintro e w3 ⟨rfl, rfl⟩
          go_wp2_with fail
          go_ret
          have hp := HM.out.pieces
          have ho := HM.out.ok
          rw [HPE.out] at hp ho
          exact ⟨ret_bool ho, hp ▸ HK.out.draws _ _ n3 HI2.out⟩
        | true =>
          rw [ho] at H7
          cases mc with
          | false =>
            have HPE := Lib.hid (HPB2.out (by simp))
            clear ho HPB2 HPN2
            go_wp2_with fail
            refine (H7.out _).mono ?_
            rintro e w3 ⟨rfl, rfl⟩
            go_wp2_with fail
            go_ret
            have hp := HM.out.pieces
            have ho := HM.out.ok
            rw [HPE.out] at hp ho
            exact ⟨ret_bool ho, hp ▸ HK.out.draws _ _ n3 HI2.out⟩
          | true =>
            have H8 := Lib.hid (fun W => nmCheck_any (Lib.trimPrefix b [40]) W (by have := trimP_len b [40]; have := HCB.out.1; have := HLT.out; have := HM.out.short; have := HL.out; omega))
            cases hg : goodName (Lib.trimPrefix b [40]) with
            | false =>
              have HPE := Lib.hid (HPB2.out (by rw [hg]; simp))
              have he : nameErr (Lib.trimPrefix b [40]) = 3 := by unfold nameErr; rw [hg]; rfl
              rw [he] at H8
              clear ho HPB2 HPN2 hg he
              go_wp2_with fail
              refine (H7.out _).mono ?_
              rintro e w3 ⟨rfl, rfl⟩
              go_wp2_with fail
              refine (H8.out _).mono ?_
              rintro e w3 ⟨rfl, rfl⟩
              go_wp2_with fail
              go_ret
              have hp := HM.out.pieces
              have ho := HM.out.ok
              rw [HPE.out] at hp ho
              exact ⟨ret_bool ho, hp ▸ HK.out.draws _ _ n3 HI2.out⟩
            | true =>
              have HPE := Lib.hid (HPN2.out ⟨ho, rfl, hg⟩)
              have he : nameErr (Lib.trimPrefix b [40]) = 0 := by unfold nameErr; rw [hg]; rfl
              rw [he] at H8
              have HG := Lib.hid hg
              clear ho HPB2 HPN2 hg he
              go_wp2_with fail
              refine (H7.out _).mono ?_
              rintro e w3 ⟨rfl, rfl⟩
              go_wp2_with fail
              refine (H8.out _).mono ?_
              rintro e w3 ⟨rfl, rfl⟩
              have H9 := Lib.hid (HK.out.name (ls ++ [(false, a)]) (Lib.trimPrefix b [40]) (w2.drewN n3) HG.out (by have := HM.out.few; simp; omega) ⟨(parseM t).1, by have hp := HM.out.pieces; rw [HPE.out] at hp; rw [← hp]; simp⟩ (HK.out.draws _ _ n3 HI2.out))
              go_wp2_with fail
              refine H9.out.mono ?_
              rintro e w4 ⟨rfl, h4⟩
              have HI4 := Lib.hid h4
              clear h4
              go_wp2_with fail
              go_roundw
              case rel => exact ⟨t, ls ++ [(false, a)] ++ [(true, Lib.trimPrefix b [40])], rfl, Lib.hid ⟨by have := HCB.out.2; have := HLT.out; have := HM.out.short; omega, by have := HCB.out.2; have := HLT.out; have := HM.out.few; simp; omega, by have hp := HM.out.pieces; rw [HPE.out] at hp; rw [← hp]; simp, by have ho := HM.out.ok; rw [HPE.out] at ho; exact ho⟩, HI4⟩
              case measure => exact show t.length < x.length from by have := HCB.out.2; have := HLT.out; omega
end Go.Proofs.Ytoandhhkmkgmaaa
/- Contract: macro.Uses (its callbacks: nothing, and the one that keeps each name once). Texts shorter than 2^32 - 15. -/
namespace Go.Proofs.Ytoandhhkmkgmaaa
open Go.RowKit

def stepU (us : List (List UInt8)) (p : PieceM) : List (List UInt8) := if p.1 = true ∧ inL us p.2 = false then us ++ [p.2] else us
/-- The names that a text calls for, each once, in the order of their first calls. -/
def usesP (ls : List PieceM) : List (List UInt8) := ls.foldl stepU []
theorem usesP_more (ls : List PieceM) (p : PieceM) : usesP (ls ++ [p]) = stepU (usesP ls) p := by unfold usesP; rw [List.foldl_append]; rfl
theorem stepU_len (us : List (List UInt8)) (p : PieceM) : (stepU us p).length ≤ us.length + 1 := by unfold stepU; split <;> simp
theorem foldU_len : ∀ (ls : List PieceM) (us : List (List UInt8)), (ls.foldl stepU us).length ≤ us.length + ls.length
  | [], _ => by simp
  | p :: l, us => by
    have := foldU_len l (stepU us p)
    have := stepU_len us p
    simp only [List.foldl_cons, List.length_cons]
    omega
theorem usesP_len (ls : List PieceM) : (usesP ls).length ≤ ls.length := by have := foldU_len ls []; simpa [usesP] using this

/-- The names so far, as they lie: a box, and a row of the call's own above it. -/
def UsesAt (w0 : World) (us : List (List UInt8)) (W : World) : Prop :=
  ∃ A c, Blk W w0.heap.size 32 [.slice A us.length c] ∧ W.ownsRow (w0.heap.size + 1) 9 1 (.slice A us.length c) us.length (us.map sv) ∧ Below w0.heap.size w0 W

theorem own_setM {b n z k j : Nat} {W : World} {t : TypeId} {v : Value} {xs : List Value} (h : W.ownsRow b t z v n xs) (hk : k < b) (u : Value) : (W.setCell ⟨k, j, none⟩ u).ownsRow b t z v n xs := by
  obtain ⟨h0, h | ⟨g, cap, cur, hv, hg, hkk, hr⟩⟩ := h
  · exact ⟨h0, .inl h⟩
  · exact ⟨h0, .inr ⟨g, cap, cur, hv, hg, (Below.heap_setCell _ _ _ _ (by show g ≠ k; omega)).trans hkk, hr⟩⟩
theorem mNothing_any (x : List UInt8) (W : World) : Calls Try.prog 31 #[sv x] W fun e W' => e = .returned (.tuple #[]) ∧ W = W' := by
  go_enter Try.func31, Try.ntmps31
  go_wp2_with fail
  go_end0
  exact ⟨rfl, rfl⟩

set_option maxHeartbeats 1000000 in
theorem mUses1_any (w0 : World) (us : List (List UInt8)) (x : List UInt8) (W : World) (h : UsesAt w0 us W) (hl : us.length ≤ 1099511627776) :
    Calls Try.prog 32 #[sv x, .pointer (some ⟨w0.heap.size, 0, none⟩)] W fun e W' => e = .returned (.tuple #[]) ∧ UsesAt w0 (stepU us (true, x)) W' := by
  obtain ⟨A, c, hb, ho, hbel⟩ := h
  have HB := Lib.hid hb
  have HO := Lib.hid ho
  have HW := Lib.hid hbel
  have HL := Lib.hid hl
  have y := hb.cell (j := 0) rfl
  have f := hb.free 0
  have HS := Lib.hid hb.lt
  have CC := Lib.hid (slContains_any (c := c) us x W (rd_of_ownK ho) rfl (by omega))
  have HE : Hid (stepU us (true, x) = if inL us x = false then us ++ [x] else us) := Lib.hid (by unfold stepU; simp)
  generalize hn : us.length = n at *
  have HN := Lib.hid hn
  obtain ⟨bx, hbx⟩ : ∃ bx, sv x = .string bx := ⟨_, rfl⟩
  have e0 : Value.string ⟨x.toArray⟩ = .string bx := hbx
  rw [e0] at CC
  rw [hbx]
  have HX := Lib.hid hbx
  clear hb ho hbel hl hn hbx e0
  go_enter Try.func32, Try.ntmps32
  cases hi : inL us x with
  | true =>
    rw [hi] at CC HE
    clear hi
    go_wp2_with fail
    refine CC.out.mono ?_
    rintro e w1 ⟨rfl, rfl⟩
    go_wp2_with fail
    go_end0
    rw [HE.out]
    simp only [Bool.true_eq_false, if_false]
    exact ⟨True.intro, A, c, by rw [HN.out]; exact HB.out, by rw [HN.out]; exact HO.out, HW.out⟩
  | false =>
    rw [hi] at CC HE
    clear hi
    go_wp2_with fail
    refine CC.out.mono ?_
    rintro e w1 ⟨rfl, rfl⟩
    have hsz : w0.heap.size + 1 ≤ W.heap.size := HS.out
    have hn47 : (n + 1) * 16 ≤ 140737488355328 := by have := HL.out; omega
    have hn48 : n + 1 ≤ 140737488355328 := by omega
    go_wp2_with (at_builtin; refine wpList_pushAt elStr W _ _ (w0.heap.size + 1) A n c _ (.string bx) HO.out rfl hsz hn47 hn48 rfl rfl rfl rfl ?_; intro A' c' w5 hown5 hb5 hg5 hat5; have HB5 := Lib.hid (HB.out.below hb5 (Nat.lt_succ_self _)); have y5 := HB5.out.cell (j := 0) rfl; have f5 := HB5.out.free 0; have HO5 := Lib.hid hown5; have HW5 := Lib.hid hb5; clear hown5 hb5 hg5 hat5)
    go_end0
    rw [HE.out]
    have hl5 : (us ++ [x]).length = n + 1 := by rw [List.length_append, HN.out]; rfl
    simp only [if_pos]
    refine ⟨True.intro, A', c', ?_, ?_, ?_⟩
    · rw [hl5]; exact HB5.out.same 0 _
    · rw [hl5, List.map_append]
      have ho := own_setM (j := 0) HO5.out (Nat.lt_succ_self _) (.slice A' (n + 1) c')
      rw [← HX.out] at ho
      exact ho
    · exact (HW.out.trans (HW5.out.mono (Nat.le_succ _))).setCell (p := ⟨w0.heap.size, 0, none⟩) (Nat.le_refl _) _
/-- What Uses tells. -/
def UsesE (s : List UInt8) (w : World) (e : Ending) (w' : World) : Prop :=
  ((parseM s).2 = true ∧ ∃ A c, e = .returned (.tuple #[.slice A (usesP (parseM s).1).length c, .int .i64 0]) ∧ w'.ownsRow (w.heap.size + 1) 9 1 (.slice A (usesP (parseM s).1).length c) (usesP (parseM s).1).length ((usesP (parseM s).1).map sv) ∧ Below w.heap.size w w') ∨
  ((parseM s).2 = false ∧ e = .returned (.tuple #[.slice none 0 0, .int .i64 3]) ∧ Below w.heap.size w w')
theorem uses_keep (s : List UInt8) (w0 : World) (m : Int) (hm : w0.cell? ⟨0, 0, none⟩ = some (.int .i64 m)) (h0 : 0 < w0.heap.size) (hl : s.length < 4294967281) :
    KeepM Try.prog 31 32 #[] #[.pointer (some ⟨w0.heap.size, 0, none⟩)] (s.length + 1) (([] : List PieceM).length + 2 * s.length + 1) ([] ++ (parseM s).1) (fun ls W => UsesAt w0 (usesP ls) W) where
  cell := fun ls W ⟨A, c, _, _, hb⟩ => ⟨m, (hb.cell (p := ⟨0, 0, none⟩) h0).trans hm⟩
  draws := fun ls W n ⟨A, c, h1, h2, h3⟩ => ⟨A, c, h1, h2, below_drewN h3 n⟩
  text := fun ls x W _ _ hI => (mNothing_any x W).mono fun e W' h => ⟨h.1, by rw [← h.2, usesP_more]; unfold stepU; simpa using hI⟩
  name := fun ls x W _ hn _ hI => (mUses1_any w0 (usesP ls) x W hI (by have := usesP_len ls; simp at hn; omega)).mono fun e W' h => ⟨h.1, by rw [usesP_more]; exact h.2⟩
set_option maxHeartbeats 1000000 in
theorem mUses_any (s : List UInt8) (w : World) (m : Int) (hm : w.cell? ⟨0, 0, none⟩ = some (.int .i64 m)) (h0 : 0 < w.heap.size) (hl : s.length < 4294967281) :
    Calls Try.prog 9 #[sv s] w (UsesE s w) := by
  have hA : UsesAt w [] (w.alloc (.cells #[.slice none 0 0] 32)) := ⟨none, 0, Blk.new w _ _, ⟨rfl, .inl ⟨rfl, rfl⟩⟩, (Below.refl _ w).alloc (Nat.le_refl _) _⟩
  have HP := Lib.hid (mParse_any 31 32 #[] #[.pointer (some ⟨w.heap.size, 0, none⟩)] (fun args w => enters_of Try.func31 (by kernel_rfl) rfl args w) (fun args w => enters_of Try.func32 (by kernel_rfl) rfl args w) s _ [] (uses_keep s w m hm h0 hl) (w.alloc (.cells #[.slice none 0 0] 32)) hA hl)
  clear hm h0 hl hA
  go_enter Try.func9, Try.ntmps9
  go_wp2_with fail
  refine HP.out.mono ?_
  rintro e w1 ⟨rfl, A, c, hb, ho, hbel⟩
  rw [List.nil_append] at hb ho
  have y := hb.cell (j := 0) rfl
  have f := hb.free 0
  have HO := Lib.hid ho
  have HW := Lib.hid hbel
  clear hb ho hbel
  cases hr : (parseM s).2 with
  | true =>
    have HR := Lib.hid hr
    clear hr
    go_wp2_with fail
    go_ret2
    exact .inl ⟨HR.out, A, c, rfl, HO.out, HW.out⟩
  | false =>
    have HR := Lib.hid hr
    clear hr
    go_wp2_with fail
    go_ret2
    exact .inr ⟨HR.out, rfl, HW.out⟩
end Go.Proofs.Ytoandhhkmkgmaaa
/- Macros, plain: what the reference's calls of a text are, beside the pieces of parse; faults; circles; what names are flat. No program in sight. -/
namespace Go.Proofs.Ytoandhhkmkgmaaa

/-! ### The reference's calls of a text, byte by byte -/
def callsF : Nat → List UInt8 → Option (List PieceM)
  | 0, _ => none
  | _ + 1, [] => some []
  | f + 1, b :: r =>
    if b = 36 then
      if Lib.hasPrefix r [36] = true then (callsF f (Lib.trimPrefix r [36])).map ((false, [36]) :: ·)
      else if Lib.hasPrefix (Lib.cut r [41]).1 [40] = true ∧ (Lib.cut r [41]).2.2 = true ∧ goodName (Lib.trimPrefix (Lib.cut r [41]).1 [40]) = true then (callsF f (Lib.cut r [41]).2.1).map ((true, Lib.trimPrefix (Lib.cut r [41]).1 [40]) :: ·)
      else none
    else (callsF f r).map ((false, [b]) :: ·)
def callsR (s : List UInt8) : Option (List PieceM) := callsF (s.length + 1) s
theorem callsF_more : ∀ (f g : Nat) (s : List UInt8), s.length < f → s.length < g → callsF f s = callsF g s
  | 0, _, _, h, _ => absurd h (Nat.not_lt_zero _)
  | _, 0, _, _, h => absurd h (Nat.not_lt_zero _)
  | f + 1, g + 1, [], _, _ => rfl
  | f + 1, g + 1, b :: r, h1, h2 => by
    rw [List.length_cons] at h1 h2
    have ht := trimP_len r [36]
    have hc := (cut_len r 41).2
    unfold callsF
    rw [callsF_more f g (Lib.trimPrefix r [36]) (by omega) (by omega), callsF_more f g (Lib.cut r [41]).2.1 (by omega) (by omega), callsF_more f g r (by omega) (by omega)]
theorem callsR_nil : callsR [] = some [] := rfl
theorem callsR_cons (b : UInt8) (r : List UInt8) : callsR (b :: r) =
    if b = 36 then
      if Lib.hasPrefix r [36] = true then (callsR (Lib.trimPrefix r [36])).map ((false, [36]) :: ·)
      else if Lib.hasPrefix (Lib.cut r [41]).1 [40] = true ∧ (Lib.cut r [41]).2.2 = true ∧ goodName (Lib.trimPrefix (Lib.cut r [41]).1 [40]) = true then (callsR (Lib.cut r [41]).2.1).map ((true, Lib.trimPrefix (Lib.cut r [41]).1 [40]) :: ·)
      else none
    else (callsR r).map ((false, [b]) :: ·) := by
  have ht := trimP_len r [36]
  have hc := (cut_len r 41).2
  unfold callsR
  conv => lhs; unfold callsF
  rw [List.length_cons, callsF_more (r.length + 1) ((Lib.trimPrefix r [36]).length + 1) (Lib.trimPrefix r [36]) (by omega) (by omega), callsF_more (r.length + 1) ((Lib.cut r [41]).2.1.length + 1) (Lib.cut r [41]).2.1 (by omega) (by omega)]
def singleM (a : List UInt8) : List PieceM := a.map fun b => (false, [b])
theorem calls_front : ∀ (a r : List UInt8), (36 : UInt8) ∉ a → callsR (a ++ r) = (callsR r).map (singleM a ++ ·)
  | [], r, _ => by simp [singleM]
  | b :: a, r, h => by
    have hb : b ≠ 36 := fun e => h (by simp [e])
    rw [List.cons_append, callsR_cons, if_neg hb, calls_front a r (fun hm => h (List.mem_cons_of_mem _ hm))]
    cases callsR r <;> simp [singleM]
/-- The names among pieces. -/
def namesM (ls : List PieceM) : List (List UInt8) := (ls.filter (·.1)).map (·.2)
/-- Two lists of pieces that say the same. -/
structure SameM (a b : List PieceM) : Prop where
  names : namesM a = namesM b
  text : ∀ fl : List UInt8 → Bool × List UInt8, a.flatMap (textM fl) = b.flatMap (textM fl)
theorem SameM.cons {a b : List PieceM} (h : SameM a b) (p : PieceM) : SameM (p :: a) (p :: b) where
  names := by have := h.names; unfold namesM at *; rw [List.filter_cons, List.filter_cons]; split <;> simp [this]
  text := fun fl => by rw [List.flatMap_cons, List.flatMap_cons, h.text]
theorem same_front {a b : List PieceM} (x : List UInt8) (h : SameM a b) : SameM (singleM x ++ a) ((false, x) :: b) where
  names := by
    have := h.names
    unfold namesM at *
    rw [List.filter_append]
    have e : (singleM x).filter (·.1) = [] := by unfold singleM; simp [List.filter_eq_nil_iff]
    rw [e, List.nil_append, this]
    rfl
  text := fun fl => by
    rw [List.flatMap_append, List.flatMap_cons, h.text]
    congr 1
    unfold singleM textM
    induction x with
    | nil => rfl
    | cons b x ih => simpa using ih
/-- What Calls and parse have to do with each other. -/
theorem calls_parse : ∀ (k : Nat) (s : List UInt8), s.length ≤ k → (match callsR s with | none => (parseM s).2 = false | some cs => (parseM s).2 = true ∧ SameM cs (parseM s).1)
  | k, s, hk => by
    rcases cut_ways s 36 with ⟨h, hn⟩ | ⟨i, hi, h, hn, hs⟩
    · have e : callsR s = some (singleM s) := by
        have := calls_front s [] hn
        rw [List.append_nil, callsR_nil] at this
        rw [this]; simp
      rw [e, parseM_eq, h, if_pos rfl]
      refine ⟨rfl, ?_⟩
      have := same_front s (a := []) (b := []) ⟨rfl, fun _ => rfl⟩
      rwa [List.append_nil] at this
    · have hlen : (s.drop (i + 1)).length < s.length := by rw [List.length_drop]; omega
      rw [parseM_eq, h, if_neg (by simp)]
      generalize hr : s.drop (i + 1) = r at *
      generalize ha : s.take i = a at *
      simp only []
      rw [hs, calls_front a _ hn, callsR_cons, if_pos rfl]
      have ht := trimP_len r [36]
      have hc := (cut_len r 41).2
      by_cases h1 : Lib.hasPrefix r [36] = true
      · rw [if_pos h1, if_pos h1]
        obtain ⟨k', rfl⟩ : ∃ k', k = k' + 1 := ⟨k - 1, by omega⟩
        have ih := calls_parse k' (Lib.trimPrefix r [36]) (by omega)
        cases hq : callsR (Lib.trimPrefix r [36]) with
        | none => rw [hq] at ih; exact ih
        | some cs =>
          rw [hq] at ih
          exact ⟨ih.1, same_front a (ih.2.cons _)⟩
      · rw [if_neg h1, if_neg h1]
        by_cases h2 : Lib.hasPrefix (Lib.cut r [41]).1 [40] = true ∧ (Lib.cut r [41]).2.2 = true ∧ goodName (Lib.trimPrefix (Lib.cut r [41]).1 [40]) = true
        · rw [if_pos h2, if_pos h2]
          obtain ⟨k', rfl⟩ : ∃ k', k = k' + 1 := ⟨k - 1, by omega⟩
          have ih := calls_parse k' (Lib.cut r [41]).2.1 (by omega)
          cases hq : callsR (Lib.cut r [41]).2.1 with
          | none => rw [hq] at ih; exact ih
          | some cs =>
            rw [hq] at ih
            exact ⟨ih.1, same_front a (ih.2.cons _)⟩
        · rw [if_neg h2, if_neg h2]
          rfl
theorem calls_none {s : List UInt8} : callsR s = none ↔ (parseM s).2 = false := by
  have h := calls_parse s.length s (Nat.le_refl _)
  cases hq : callsR s with
  | none => rw [hq] at h; simp [h]
  | some cs => rw [hq] at h; simp [h.1]
theorem calls_some {s : List UInt8} {cs : List PieceM} (hq : callsR s = some cs) : (parseM s).2 = true ∧ SameM cs (parseM s).1 := by
  have h := calls_parse s.length s (Nat.le_refl _)
  rw [hq] at h
  exact h
theorem fold_names : ∀ (ls : List PieceM) (us : List (List UInt8)), ls.foldl stepU us = (namesM ls).foldl (fun us n => stepU us (true, n)) us
  | [], _ => rfl
  | p :: l, us => by
    rw [List.foldl_cons, fold_names l]
    obtain ⟨b, x⟩ := p
    cases b
    · show _ = (namesM l).foldl _ us
      unfold stepU
      simp
    · rfl
theorem uses_same {a b : List PieceM} (h : SameM a b) : usesP a = usesP b := by unfold usesP; rw [fold_names, fold_names, h.names]
theorem mem_usesF : ∀ (ls : List (List UInt8)) (us : List (List UInt8)) (n : List UInt8), n ∈ ls.foldl (fun us n => stepU us (true, n)) us ↔ n ∈ us ∨ n ∈ ls
  | [], us, n => by simp
  | x :: l, us, n => by
    rw [List.foldl_cons, mem_usesF l]
    unfold stepU
    by_cases h : inL us x = false
    · rw [if_pos ⟨rfl, h⟩]; simp [or_assoc]
    · rw [if_neg (fun hc => h hc.2)]
      have : x ∈ us := by unfold inL at h; simpa using h
      constructor
      · rintro (h | h)
        · exact .inl h
        · exact .inr (List.mem_cons_of_mem _ h)
      · rintro (h | h)
        · exact .inl h
        · rcases List.mem_cons.1 h with rfl | h
          · exact .inl this
          · exact .inr h
theorem mem_uses {ls : List PieceM} {n : List UInt8} : n ∈ usesP ls ↔ (true, n) ∈ ls := by
  unfold usesP
  rw [fold_names, mem_usesF]
  unfold namesM
  simp

/-! ### Macros -/
abbrev MacT := List UInt8 × List UInt8
def namesL (l : List MacT) : List (List UInt8) := l.map (·.1)
def usesOf (v : List UInt8) : List (List UInt8) := usesP (parseM v).1
def faultM (done : List (List UInt8)) (m : MacT) : Nat := if goodName m.1 = false ∨ (parseM m.2).2 = false then 3 else if inL done m.1 = true then 6 else 0
def faultF : List (List UInt8) → List MacT → Nat
  | _, [] => 0
  | done, m :: l => if faultM done m ≠ 0 then faultM done m else faultF (done ++ [m.1]) l
theorem faultF_at : ∀ {l : List MacT} {done : List (List UInt8)} {i : Nat} {m : MacT}, l[i]? = some m → faultF done (l.take i) = 0 → faultM (done ++ namesL (l.take i)) m ≠ 0 → faultF done l = faultM (done ++ namesL (l.take i)) m
  | [], _, i, _, h, _, _ => by simp at h
  | x :: l, done, 0, m, h, _, hf => by
    simp only [List.getElem?_cons_zero, Option.some.injEq] at h
    subst h
    simp only [List.take_zero, namesL, List.map_nil, List.append_nil] at hf ⊢
    unfold faultF
    rw [if_pos hf]
  | x :: l, done, i + 1, m, h, h0, hf => by
    rw [List.take_succ_cons] at h0 hf ⊢
    unfold faultF at h0 ⊢
    by_cases hx : faultM done x ≠ 0
    · rw [if_pos hx] at h0; exact absurd h0 hx
    · rw [if_neg hx] at h0 ⊢
      have e : done ++ namesL (x :: l.take i) = done ++ [x.1] ++ namesL (l.take i) := by simp [namesL]
      rw [e] at hf ⊢
      exact faultF_at (by simpa using h) h0 hf
theorem faultF_take : ∀ {l : List MacT} {done : List (List UInt8)} {i : Nat} {m : MacT}, l[i]? = some m → faultF done (l.take i) = 0 → faultM (done ++ namesL (l.take i)) m = 0 → faultF done (l.take (i + 1)) = 0
  | [], _, i, _, h, _, _ => by simp at h
  | x :: l, done, 0, m, h, _, hf => by
    simp only [List.getElem?_cons_zero, Option.some.injEq] at h
    subst h
    simp only [List.take_zero, namesL, List.map_nil, List.append_nil] at hf
    rw [List.take_succ_cons, List.take_zero]
    unfold faultF
    rw [if_neg (by simp [hf])]
    rfl
  | x :: l, done, i + 1, m, h, h0, hf => by
    rw [List.take_succ_cons] at h0 hf ⊢
    unfold faultF at h0 ⊢
    by_cases hx : faultM done x ≠ 0
    · rw [if_pos hx] at h0; exact absurd h0 hx
    · rw [if_neg hx] at h0 ⊢
      have e : done ++ namesL (x :: l.take i) = done ++ [x.1] ++ namesL (l.take i) := by simp [namesL]
      rw [e] at hf
      exact faultF_take (by simpa using h) h0 hf
theorem faultM_zero {done : List (List UInt8)} {m : MacT} : faultM done m = 0 ↔ goodName m.1 = true ∧ (parseM m.2).2 = true ∧ m.1 ∉ done := by
  unfold faultM inL
  by_cases h : goodName m.1 = false ∨ (parseM m.2).2 = false
  · rw [if_pos h]
    constructor
    · intro e; cases e
    · rintro ⟨h1, h2, _⟩; rcases h with h | h
      · rw [h1] at h; cases h
      · rw [h2] at h; cases h
  · rw [if_neg h]
    have h1 : goodName m.1 = true := by cases hg : goodName m.1 <;> simp_all
    have h2 : (parseM m.2).2 = true := by cases hg : (parseM m.2).2 <;> simp_all
    by_cases h3 : m.1 ∈ done <;> simp [h1, h2, h3]
theorem faultF_zero : ∀ {l : List MacT} {done : List (List UInt8)}, faultF done l = 0 → done.Nodup → (done ++ namesL l).Nodup ∧ ∀ m ∈ l, goodName m.1 = true ∧ (parseM m.2).2 = true
  | [], done, _, hd => ⟨by simpa [namesL] using hd, by simp⟩
  | x :: l, done, h, hd => by
    unfold faultF at h
    by_cases hx : faultM done x ≠ 0
    · rw [if_pos hx] at h; exact absurd h hx
    · rw [if_neg hx] at h
      obtain ⟨g1, g2, g3⟩ := faultM_zero.1 (Decidable.not_not.1 hx)
      have hd2 : (done ++ [x.1]).Nodup := by
        rw [List.nodup_append]
        exact ⟨hd, by simp, fun a ha b hb e => by rw [List.mem_singleton] at hb; subst hb; subst e; exact g3 ha⟩
      obtain ⟨h1, h2⟩ := faultF_zero h hd2
      refine ⟨by simpa [namesL] using h1, fun m hm => ?_⟩
      rcases List.mem_cons.1 hm with rfl | hm
      · exact ⟨g1, g2⟩
      · exact h2 m hm
def noneL (l : List MacT) : Bool := l.any fun m => (usesOf m.2).any fun u => !inL (namesL l) u
/-- 'a calls for b'. -/
def CallsM (l : List MacT) (b a : List UInt8) : Prop := ∃ v, (a, v) ∈ l ∧ b ∈ usesOf v
def TidyM (l : List MacT) : Prop := ∀ n ∈ namesL l, Acc (CallsM l) n
open Classical in
noncomputable def macE (l : List MacT) : Nat := if 40 < l.length then 2 else if faultF [] l ≠ 0 then faultF [] l else if noneL l = true then 5 else if TidyM l then 0 else 8
theorem macE_big {l : List MacT} (h : 40 < l.length) : macE l = 2 := by unfold macE; rw [if_pos h]
theorem macE_bad {l : List MacT} (h : ¬ 40 < l.length) (h2 : faultF [] l ≠ 0) : macE l = faultF [] l := by unfold macE; rw [if_neg h, if_pos h2]
theorem macE_none {l : List MacT} (h : ¬ 40 < l.length) (h2 : faultF [] l = 0) (h3 : noneL l = true) : macE l = 5 := by unfold macE; rw [if_neg h, if_neg (fun e => e h2), if_pos h3]
theorem macE_cyc {l : List MacT} (h : ¬ 40 < l.length) (h2 : faultF [] l = 0) (h3 : noneL l = false) (h4 : ¬ TidyM l) : macE l = 8 := by unfold macE; rw [if_neg h, if_neg (fun e => e h2), if_neg (by rw [h3]; decide), if_neg h4]
theorem macE_ok {l : List MacT} (h : ¬ 40 < l.length) (h2 : faultF [] l = 0) (h3 : noneL l = false) (h4 : TidyM l) : macE l = 0 := by unfold macE; rw [if_neg h, if_neg (fun e => e h2), if_neg (by rw [h3]; decide), if_pos h4]
theorem faultF_le : ∀ (l : List MacT) (done : List (List UInt8)), faultF done l ≤ 6
  | [], _ => by simp [faultF]
  | m :: l, done => by
    unfold faultF
    split
    · unfold faultM; split
      · omega
      · split <;> omega
    · exact faultF_le l _
theorem macE_zero {l : List MacT} (h : macE l = 0) : ¬ 40 < l.length ∧ faultF [] l = 0 ∧ noneL l = false ∧ TidyM l := by
  unfold macE at h
  split at h
  · cases h
  · split at h
    · contradiction
    · split at h
      · cases h
      · split at h
        · exact ⟨by assumption, by simp_all, by simp_all, by assumption⟩
        · cases h
theorem noneL_false {l : List MacT} (h : noneL l = false) {n v u : List UInt8} (hm : (n, v) ∈ l) (hu : u ∈ usesOf v) : u ∈ namesL l := by
  unfold noneL at h
  rw [List.any_eq_false] at h
  have := h (n, v) hm
  simp only [Bool.not_eq_true, List.any_eq_false, Bool.not_eq_true'] at this
  have h2 := this u hu
  unfold inL at h2
  simpa using h2
theorem noneL_true {l : List MacT} {n v u : List UInt8} (hm : (n, v) ∈ l) (hu : u ∈ usesOf v) (h : u ∉ namesL l) : noneL l = true := by
  unfold noneL
  rw [List.any_eq_true]
  refine ⟨(n, v), hm, ?_⟩
  rw [List.any_eq_true]
  exact ⟨u, hu, by unfold inL; simpa using h⟩
theorem noneL_no {l : List MacT} (h : ∀ m ∈ l, ∀ u ∈ usesOf m.2, u ∈ namesL l) : noneL l = false := by
  unfold noneL
  rw [List.any_eq_false]
  intro m hm
  simp only [Bool.not_eq_true, List.any_eq_false, Bool.not_eq_true']
  intro u hu
  unfold inL
  simpa using h m hm u hu

/-! ### Flat -/
/-- What flat makes of a text. -/
def flatP (fl : List UInt8 → Bool × List UInt8) (v : List UInt8) : Bool × List UInt8 :=
  if ((parseM v).1.foldl (pieceM fl) (false, [])).1 = true then (true, []) else (false, ((parseM v).1.foldl (pieceM fl) (false, [])).2)
def FixM (l : List MacT) (fl : List UInt8 → Bool × List UInt8) : Prop := ∀ n v, (n, v) ∈ l → fl n = flatP fl v
theorem flatP_says (fl : List UInt8 → Bool × List UInt8) (v : List UInt8) :
    (if (∀ p, p ∈ (parseM v).1 → wideM fl p = false) ∧ ((parseM v).1.flatMap (textM fl)).length ≤ 2000 then flatP fl v = (false, (parseM v).1.flatMap (textM fl)) else flatP fl v = (true, [])) := by
  have h := flat_says fl (parseM v).1 [] (by simp)
  rw [List.nil_append] at h
  unfold flatP
  split at h
  · rw [if_pos (by assumption), h]; rfl
  · rw [if_neg (by assumption), if_pos h]
theorem flatP_congr {f g : List UInt8 → Bool × List UInt8} {v : List UInt8} (h : ∀ u ∈ usesOf v, f u = g u) : flatP f v = flatP g v := by
  have key : ∀ (ls : List PieceM) (st : Bool × List UInt8), (∀ p ∈ ls, p.1 = true → f p.2 = g p.2) → ls.foldl (pieceM f) st = ls.foldl (pieceM g) st := by
    intro ls
    induction ls with
    | nil => intro st _; rfl
    | cons p l ih =>
      intro st hp
      rw [List.foldl_cons, List.foldl_cons]
      have e : pieceM f st p = pieceM g st p := by
        unfold pieceM
        by_cases hb : p.1 = true
        · rw [if_pos hb, if_pos hb, hp p (List.mem_cons_self ..) hb]
        · rw [if_neg hb, if_neg hb]
      rw [e]
      exact ih _ (fun q hq => hp q (List.mem_cons_of_mem _ hq))
  unfold flatP
  rw [key _ _ (fun p hp hb => h p.2 (by unfold usesOf; rw [mem_uses]; obtain ⟨b, x⟩ := p; simp only at hb; subst hb; exact hp))]
/-- What names are flat is told by the equation, where nothing calls for itself. -/
theorem fix_unique {l : List MacT} {f g : List UInt8 → Bool × List UInt8} (hf : FixM l f) (hg : FixM l g) (hn : noneL l = false) : ∀ n, Acc (CallsM l) n → n ∈ namesL l → f n = g n := by
  intro n ha
  induction ha with
  | intro n _ ih =>
    intro hm
    obtain ⟨⟨a, v⟩, hv, rfl⟩ := List.mem_map.1 hm
    rw [hf _ _ hv, hg _ _ hv]
    exact flatP_congr (fun u hu => ih u ⟨v, hv, hu⟩ (noneL_false hn hv hu))
open Classical in
/-- What each name is flat. -/
noncomputable def flM (l : List MacT) : List UInt8 → Bool × List UInt8 := if h : ∃ fl, FixM l fl then h.choose else fun _ => (false, [])
theorem flM_fix {l : List MacT} {f : List UInt8 → Bool × List UInt8} (hf : FixM l f) : FixM l (flM l) := by
  unfold flM
  rw [dif_pos ⟨f, hf⟩]
  exact Exists.choose_spec _
theorem flM_eq {l : List MacT} {f : List UInt8 → Bool × List UInt8} (hf : FixM l f) (hz : macE l = 0) {n : List UInt8} (hn : n ∈ namesL l) : f n = flM l n := by
  obtain ⟨_, _, h3, h4⟩ := macE_zero hz
  exact fix_unique hf (flM_fix hf) h3 n (h4 n hn) hn
end Go.Proofs.Ytoandhhkmkgmaaa
