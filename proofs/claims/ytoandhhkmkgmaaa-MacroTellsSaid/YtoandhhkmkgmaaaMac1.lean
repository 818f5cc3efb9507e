/- Contract: macro.parse against any two callbacks that keep a relation I between the pieces handed on so far and the world. Texts shorter than 2^32 - 15. -/
import Derived.Test.YtoandhhkmkgmaaaMacPlain
import Derived.Test.YtoandhhkmkgmaaaName1
import Derived.Test.YtoandhhkmkgmaaaRl1
import Derived.Test.YtoandhhkmkgmaaaOwnAt
import Derived.Test.YtoandhhkmkgmaaaOwnK
namespace Go.Proofs.Ytoandhhkmkgmaaa
open Go.RowKit

theorem mCut_any (s : List UInt8) (c : UInt8) (m : Int) (w : World) (hs : s.length < 4294967281) (hm : w.cell? ⟨0, 0, none⟩ = some (.int .i64 m)) :
    Calls Try.prog 61 #[sv s, .string ⟨#[c]⟩] w fun e w' => e = .returned (.tuple #[sv (Lib.cut s [c]).1, sv (Lib.cut s [c]).2.1, .bool (Lib.cut s [c]).2.2]) ∧ ∃ n, w' = w.drewN n :=
  Try.strings_Cut ⟨s.toArray⟩ ⟨#[c]⟩ m w hs hm
theorem mPre_any (s : List UInt8) (c : UInt8) (w : World) :
    Calls Try.prog 62 #[sv s, .string ⟨#[c]⟩] w fun e w' => e = .returned (.tuple #[sv (Lib.trimPrefix s [c]), .bool (Lib.hasPrefix s [c])]) ∧ w = w' :=
  (Try.strings_CutPrefix ⟨s.toArray⟩ ⟨#[c]⟩ w).mono fun _ _ h => ⟨h.1, h.2.symm⟩
theorem nameErr_ok (s : List UInt8) : (nameErr s = 0 ↔ goodName s = true) := by
  unfold nameErr
  cases goodName s <;> simp

/-- What the callbacks of a parse keep. -/
structure KeepM (prog : Program) (g h : FuncId) (lg lh : Array Value) (N M : Nat) (full : List PieceM) (I : List PieceM → World → Prop) : Prop where
  cell : ∀ ls W, I ls W → ∃ m, W.cell? ⟨0, 0, none⟩ = some (.int .i64 m)
  draws : ∀ ls W n, I ls W → I ls (W.drewN n)
  text : ∀ ls x W, x.length ≤ N → ls.length ≤ M → I ls W → Calls prog g (#[sv x] ++ lg) W fun e W' => e = .returned (.tuple #[]) ∧ I (ls ++ [(false, x)]) W'
  name : ∀ ls x W, goodName x = true → ls.length ≤ M → (∃ r, ls ++ (true, x) :: r = full) → I ls W → Calls prog h (#[sv x] ++ lh) W fun e W' => e = .returned (.tuple #[]) ∧ I (ls ++ [(true, x)]) W'
theorem parse_end {s : List UInt8} (h : (Lib.cut s [36]).2.2 = false) : parseM s = ([(false, (Lib.cut s [36]).1)], true) := by rw [parseM_eq, if_pos h]
theorem parse_two {s : List UInt8} (h : (Lib.cut s [36]).2.2 = true) (h2 : Lib.hasPrefix (Lib.cut s [36]).2.1 [36] = true) : parseM s = ((false, (Lib.cut s [36]).1) :: (false, [36]) :: (parseM (Lib.trimPrefix (Lib.cut s [36]).2.1 [36])).1, (parseM (Lib.trimPrefix (Lib.cut s [36]).2.1 [36])).2) := by
  rw [parseM_eq, if_neg (by rw [h]; decide), if_pos h2]
theorem parse_bad {s : List UInt8} (h : (Lib.cut s [36]).2.2 = true) (h2 : Lib.hasPrefix (Lib.cut s [36]).2.1 [36] = false) (h3 : ¬ (Lib.hasPrefix (Lib.cut (Lib.cut s [36]).2.1 [41]).1 [40] = true ∧ (Lib.cut (Lib.cut s [36]).2.1 [41]).2.2 = true ∧ goodName (Lib.trimPrefix (Lib.cut (Lib.cut s [36]).2.1 [41]).1 [40]) = true)) : parseM s = ([(false, (Lib.cut s [36]).1)], false) := by
  rw [parseM_eq, if_neg (by rw [h]; decide), if_neg (by rw [h2]; decide), if_neg h3]
theorem parse_name {s : List UInt8} (h : (Lib.cut s [36]).2.2 = true) (h2 : Lib.hasPrefix (Lib.cut s [36]).2.1 [36] = false) (h3 : Lib.hasPrefix (Lib.cut (Lib.cut s [36]).2.1 [41]).1 [40] = true ∧ (Lib.cut (Lib.cut s [36]).2.1 [41]).2.2 = true ∧ goodName (Lib.trimPrefix (Lib.cut (Lib.cut s [36]).2.1 [41]).1 [40]) = true) :
    parseM s = ((false, (Lib.cut s [36]).1) :: (true, Lib.trimPrefix (Lib.cut (Lib.cut s [36]).2.1 [41]).1 [40]) :: (parseM (Lib.cut (Lib.cut s [36]).2.1 [41]).2.1).1, (parseM (Lib.cut (Lib.cut s [36]).2.1 [41]).2.1).2) := by
  rw [parseM_eq, if_neg (by rw [h]; decide), if_neg (by rw [h2]; decide), if_pos h3]
/-- What is still to be handed on. -/
structure MidM (s : List UInt8) (ls0 : List PieceM) (x : List UInt8) (ls : List PieceM) : Prop where
  short : x.length ≤ s.length
  few : ls.length + 2 * x.length ≤ ls0.length + 2 * s.length
  pieces : ls ++ (parseM x).1 = ls0 ++ (parseM s).1
  ok : (parseM x).2 = (parseM s).2
def lenS : Value → Nat
  | .string b => b.size
  | _ => 0

set_option maxHeartbeats 1000000 in
theorem mParse_any (g h : FuncId) (lg lh : Array Value) (eg : ∀ args w, (callFunc g args).run Try.prog w = .ok (.enter g args) w) (eh : ∀ args w, (callFunc h args).run Try.prog w = .ok (.enter h args) w)
    (s : List UInt8) (I : List PieceM → World → Prop) (ls0 : List PieceM) (hK : KeepM Try.prog g h lg lh (s.length + 1) (ls0.length + 2 * s.length + 1) (ls0 ++ (parseM s).1) I) (w : World) (hI : I ls0 w) (hl : s.length < 4294967281) :
    Calls Try.prog 30 #[sv s, .func (.func g) #[] lg, .func (.func h) #[] lh] w fun e w' => e = .returned (.bool (parseM s).2) ∧ I (ls0 ++ (parseM s).1) w' := by
  have HK := Lib.hid hK
  have HI := Lib.hid hI
  have HL := Lib.hid hl
  clear hK hI hl
  go_enter Try.func30, Try.ntmps30
  go_wp2_with fail
  go_loopw [0, 7, 8, 9, 10, 11, 12, 13, 14, 15] (fun v _ _ _ _ _ _ _ _ _ wr => ∃ (x : List UInt8) (ls : List PieceM), v = sv x ∧ Hid (MidM s ls0 x ls) ∧ Hid (I ls wr)) (fun v _ _ _ _ _ _ _ _ _ _ => lenS v)
  case atStart => exact ⟨s, ls0, rfl, Lib.hid ⟨Nat.le_refl _, Nat.le_refl _, rfl, rfl⟩, HI⟩
  case round =>
    obtain ⟨x, ls, rfl, HM, HW⟩ := hrel
    obtain ⟨m, hm⟩ := HK.out.cell _ _ HW.out
    have H1 := Lib.hid (mCut_any x 36 m wr (by have := HM.out.short; have := HL.out; omega) hm)
    clear hm
    obtain ⟨a, r, mr, hc⟩ : ∃ a r mr, Lib.cut x [36] = (a, r, mr) := ⟨_, _, _, rfl⟩
    rw [hc] at H1
    have hca := cut_len x 36
    have hcl := fun h => cut_less (s := x) (c := 36) h
    have hpe := fun h => parse_end (s := x) h
    have hpt := fun h h2 => parse_two (s := x) h h2
    have hpb := fun h h2 h3 => parse_bad (s := x) h h2 h3
    have hpn := fun h h2 h3 => parse_name (s := x) h h2 h3
    rw [hc] at hca hcl hpe hpt hpb hpn
    have HCA := Lib.hid hca
    have HCL := Lib.hid hcl
    have HPE := Lib.hid hpe
    have HPT := Lib.hid hpt
    have HPB := Lib.hid hpb
    have HPN := Lib.hid hpn
    clear hca hcl hpe hpt hpb hpn hc
    cases mr with
    | false =>
      have HPE2 := Lib.hid (HPE.out rfl)
      clear HPE HPT HPB HPN HCL
      go_wp2_with fail
      refine H1.out.mono ?_
      rintro e w1 ⟨rfl, n1, rfl⟩
      have H2 := Lib.hid (HK.out.text ls a (wr.drewN n1) (by have := HCA.out.1; have := HM.out.short; omega) (by have := HM.out.few; omega) (HK.out.draws _ _ n1 HW.out))
      go_wp2_with fail
      refine H2.out.mono ?_
      rintro e w2 ⟨rfl, h2⟩
      have HI2 := Lib.hid h2
      clear h2
      go_wp2_with fail
      go_ret
      have hp := HM.out.pieces
      have ho := HM.out.ok
      rw [HPE2.out] at hp ho
      exact ⟨ret_bool ho, hp ▸ HI2.out⟩
    | true =>
      have hlt : r.length < x.length := HCL.out rfl
      have HLT := Lib.hid hlt
      have hpt := HPT.out rfl
      have hpb := HPB.out rfl
      have hpn := HPN.out rfl
      clear hlt HCL HPE HPT HPB HPN
      have H4 := Lib.hid (fun W => mPre_any r 36 W)
      cases hq : Lib.hasPrefix r [36] with
      | true =>
        have HPT := Lib.hid (hpt hq)
        rw [hq] at H4
        clear hq hpt hpb hpn
        go_wp2_with fail
        refine H1.out.mono ?_
        rintro e w1 ⟨rfl, n1, rfl⟩
        have H2 := Lib.hid (HK.out.text ls a (wr.drewN n1) (by have := HCA.out.1; have := HM.out.short; omega) (by have := HM.out.few; omega) (HK.out.draws _ _ n1 HW.out))
        go_wp2_with fail
        refine H2.out.mono ?_
        rintro e w2 ⟨rfl, h2⟩
        have HI2 := Lib.hid h2
        clear h2
        go_wp2_with fail
        refine (H4.out _).mono ?_
        rintro e w3 ⟨rfl, rfl⟩
        have H5 := Lib.hid (HK.out.text (ls ++ [(false, a)]) [36] w2 (by simp) (by have := HM.out.few; simp; omega) HI2.out)
        go_wp2_with fail
        refine H5.out.mono ?_
        rintro e w3 ⟨rfl, h3⟩
        have HI3 := Lib.hid h3
        clear h3
        go_wp2_with fail
        go_roundw
        case rel => exact ⟨Lib.trimPrefix r [36], ls ++ [(false, a)] ++ [(false, [36])], rfl, Lib.hid ⟨by have := trimP_len r [36]; have := HLT.out; have := HM.out.short; omega, by have := trimP_len r [36]; have := HLT.out; have := HM.out.few; simp; omega, by have hp := HM.out.pieces; rw [HPT.out] at hp; rw [← hp]; simp, by have ho := HM.out.ok; rw [HPT.out] at ho; exact ho⟩, HI3⟩
        case measure => exact show (Lib.trimPrefix r [36]).length < x.length from by have := trimP_len r [36]; have := HLT.out; omega
      | false =>
        rw [hq] at H4
        have HPB := Lib.hid (fun h3 => hpb hq h3)
        have HPN := Lib.hid (fun h3 => hpn hq h3)
        clear hq hpt hpb hpn
        go_wp2_with fail
        refine H1.out.mono ?_
        rintro e w1 ⟨rfl, n1, rfl⟩
        have H2 := Lib.hid (HK.out.text ls a (wr.drewN n1) (by have := HCA.out.1; have := HM.out.short; omega) (by have := HM.out.few; omega) (HK.out.draws _ _ n1 HW.out))
        go_wp2_with fail
        refine H2.out.mono ?_
        rintro e w2 ⟨rfl, h2⟩
        have HI2 := Lib.hid h2
        clear h2
        go_wp2_with fail
        refine (H4.out _).mono ?_
        rintro e w3 ⟨rfl, rfl⟩
        obtain ⟨m2, hm2⟩ := HK.out.cell _ _ HI2.out
        have H6 := Lib.hid (mCut_any r 41 m2 w2 (by have := HLT.out; have := HM.out.short; have := HL.out; omega) hm2)
        clear hm2
        have hcb := cut_len r 41
        obtain ⟨b, t, mc, hd⟩ : ∃ b t mc, Lib.cut r [41] = (b, t, mc) := ⟨_, _, _, rfl⟩
        have hpb := HPB.out
        have hpn := HPN.out
        rw [hd] at H6 hcb
        simp only [hd] at hpb hpn
        have HCB := Lib.hid hcb
        have HPB2 := Lib.hid hpb
        have HPN2 := Lib.hid hpn
        clear hcb hpb hpn hd HPB HPN
        go_wp2_with fail
        refine H6.out.mono ?_
        rintro e w3 ⟨rfl, n3, rfl⟩
        have H7 := Lib.hid (fun W => mPre_any b 40 W)
        cases ho : Lib.hasPrefix b [40] with
        | false =>
          rw [ho] at H7
          have HPE := Lib.hid (HPB2.out (by rw [ho]; simp))
          clear ho HPB2 HPN2
          go_wp2_with fail
          refine (H7.out _).mono ?_
          rintro e w3 ⟨rfl, rfl⟩
          go_wp2_with fail
          go_ret
          have hp := HM.out.pieces
          have ho := HM.out.ok
          rw [HPE.out] at hp ho
          exact ⟨ret_bool ho, hp ▸ HK.out.draws _ _ n3 HI2.out⟩
        | true =>
          rw [ho] at H7
          cases mc with
          | false =>
            have HPE := Lib.hid (HPB2.out (by simp))
            clear ho HPB2 HPN2
            go_wp2_with fail
            refine (H7.out _).mono ?_
            rintro e w3 ⟨rfl, rfl⟩
            go_wp2_with fail
            go_ret
            have hp := HM.out.pieces
            have ho := HM.out.ok
            rw [HPE.out] at hp ho
            exact ⟨ret_bool ho, hp ▸ HK.out.draws _ _ n3 HI2.out⟩
          | true =>
            have H8 := Lib.hid (fun W => nmCheck_any (Lib.trimPrefix b [40]) W (by have := trimP_len b [40]; have := HCB.out.1; have := HLT.out; have := HM.out.short; have := HL.out; omega))
            cases hg : goodName (Lib.trimPrefix b [40]) with
            | false =>
              have HPE := Lib.hid (HPB2.out (by rw [hg]; simp))
              have he : nameErr (Lib.trimPrefix b [40]) = 3 := by unfold nameErr; rw [hg]; rfl
              rw [he] at H8
              clear ho HPB2 HPN2 hg he
              go_wp2_with fail
              refine (H7.out _).mono ?_
              rintro e w3 ⟨rfl, rfl⟩
              go_wp2_with fail
              refine (H8.out _).mono ?_
              rintro e w3 ⟨rfl, rfl⟩
              go_wp2_with fail
              go_ret
              have hp := HM.out.pieces
              have ho := HM.out.ok
              rw [HPE.out] at hp ho
              exact ⟨ret_bool ho, hp ▸ HK.out.draws _ _ n3 HI2.out⟩
            | true =>
              have HPE := Lib.hid (HPN2.out ⟨ho, rfl, hg⟩)
              have he : nameErr (Lib.trimPrefix b [40]) = 0 := by unfold nameErr; rw [hg]; rfl
              rw [he] at H8
              have HG := Lib.hid hg
              clear ho HPB2 HPN2 hg he
              go_wp2_with fail
              refine (H7.out _).mono ?_
              rintro e w3 ⟨rfl, rfl⟩
              go_wp2_with fail
              refine (H8.out _).mono ?_
              rintro e w3 ⟨rfl, rfl⟩
              have H9 := Lib.hid (HK.out.name (ls ++ [(false, a)]) (Lib.trimPrefix b [40]) (w2.drewN n3) HG.out (by have := HM.out.few; simp; omega) ⟨(parseM t).1, by have hp := HM.out.pieces; rw [HPE.out] at hp; rw [← hp]; simp⟩ (HK.out.draws _ _ n3 HI2.out))
              go_wp2_with fail
              refine H9.out.mono ?_
              rintro e w4 ⟨rfl, h4⟩
              have HI4 := Lib.hid h4
              clear h4
              go_wp2_with fail
              go_roundw
              case rel => exact ⟨t, ls ++ [(false, a)] ++ [(true, Lib.trimPrefix b [40])], rfl, Lib.hid ⟨by have := HCB.out.2; have := HLT.out; have := HM.out.short; omega, by have := HCB.out.2; have := HLT.out; have := HM.out.few; simp; omega, by have hp := HM.out.pieces; rw [HPE.out] at hp; rw [← hp]; simp, by have ho := HM.out.ok; rw [HPE.out] at ho; exact ho⟩, HI4⟩
              case measure => exact show t.length < x.length from by have := HCB.out.2; have := HLT.out; omega
end Go.Proofs.Ytoandhhkmkgmaaa
/- Contract: macro.Uses (its callbacks: nothing, and the one that keeps each name once). Texts shorter than 2^32 - 15. -/
namespace Go.Proofs.Ytoandhhkmkgmaaa
open Go.RowKit

def stepU (us : List (List UInt8)) (p : PieceM) : List (List UInt8) := if p.1 = true ∧ inL us p.2 = false then us ++ [p.2] else us
/-- The names that a text calls for, each once, in the order of their first calls. -/
def usesP (ls : List PieceM) : List (List UInt8) := ls.foldl stepU []
theorem usesP_more (ls : List PieceM) (p : PieceM) : usesP (ls ++ [p]) = stepU (usesP ls) p := by unfold usesP; rw [List.foldl_append]; rfl
theorem stepU_len (us : List (List UInt8)) (p : PieceM) : (stepU us p).length ≤ us.length + 1 := by unfold stepU; split <;> simp
theorem foldU_len : ∀ (ls : List PieceM) (us : List (List UInt8)), (ls.foldl stepU us).length ≤ us.length + ls.length
  | [], _ => by simp
  | p :: l, us => by
    have := foldU_len l (stepU us p)
    have := stepU_len us p
    simp only [List.foldl_cons, List.length_cons]
    omega
theorem usesP_len (ls : List PieceM) : (usesP ls).length ≤ ls.length := by have := foldU_len ls []; simpa [usesP] using this

/-- The names so far, as they lie: a box, and a row of the call's own above it. -/
def UsesAt (w0 : World) (us : List (List UInt8)) (W : World) : Prop :=
  ∃ A c, Blk W w0.heap.size 32 [.slice A us.length c] ∧ W.ownsRow (w0.heap.size + 1) 9 1 (.slice A us.length c) us.length (us.map sv) ∧ Below w0.heap.size w0 W

theorem own_setM {b n z k j : Nat} {W : World} {t : TypeId} {v : Value} {xs : List Value} (h : W.ownsRow b t z v n xs) (hk : k < b) (u : Value) : (W.setCell ⟨k, j, none⟩ u).ownsRow b t z v n xs := by
  obtain ⟨h0, h | ⟨g, cap, cur, hv, hg, hkk, hr⟩⟩ := h
  · exact ⟨h0, .inl h⟩
  · exact ⟨h0, .inr ⟨g, cap, cur, hv, hg, (Below.heap_setCell _ _ _ _ (by show g ≠ k; omega)).trans hkk, hr⟩⟩
theorem mNothing_any (x : List UInt8) (W : World) : Calls Try.prog 31 #[sv x] W fun e W' => e = .returned (.tuple #[]) ∧ W = W' := by
  go_enter Try.func31, Try.ntmps31
  go_wp2_with fail
  go_end0
  exact ⟨rfl, rfl⟩

set_option maxHeartbeats 1000000 in
theorem mUses1_any (w0 : World) (us : List (List UInt8)) (x : List UInt8) (W : World) (h : UsesAt w0 us W) (hl : us.length ≤ 1099511627776) :
    Calls Try.prog 32 #[sv x, .pointer (some ⟨w0.heap.size, 0, none⟩)] W fun e W' => e = .returned (.tuple #[]) ∧ UsesAt w0 (stepU us (true, x)) W' := by
  obtain ⟨A, c, hb, ho, hbel⟩ := h
  have HB := Lib.hid hb
  have HO := Lib.hid ho
  have HW := Lib.hid hbel
  have HL := Lib.hid hl
  have y := hb.cell (j := 0) rfl
  have f := hb.free 0
  have HS := Lib.hid hb.lt
  have CC := Lib.hid (slContains_any (c := c) us x W (rd_of_ownK ho) rfl (by omega))
  have HE : Hid (stepU us (true, x) = if inL us x = false then us ++ [x] else us) := Lib.hid (by unfold stepU; simp)
  generalize hn : us.length = n at *
  have HN := Lib.hid hn
  obtain ⟨bx, hbx⟩ : ∃ bx, sv x = .string bx := ⟨_, rfl⟩
  have e0 : Value.string ⟨x.toArray⟩ = .string bx := hbx
  rw [e0] at CC
  rw [hbx]
  have HX := Lib.hid hbx
  clear hb ho hbel hl hn hbx e0
  go_enter Try.func32, Try.ntmps32
  cases hi : inL us x with
  | true =>
    rw [hi] at CC HE
    clear hi
    go_wp2_with fail
    refine CC.out.mono ?_
    rintro e w1 ⟨rfl, rfl⟩
    go_wp2_with fail
    go_end0
    rw [HE.out]
    simp only [Bool.true_eq_false, if_false]
    exact ⟨True.intro, A, c, by rw [HN.out]; exact HB.out, by rw [HN.out]; exact HO.out, HW.out⟩
  | false =>
    rw [hi] at CC HE
    clear hi
    go_wp2_with fail
    refine CC.out.mono ?_
    rintro e w1 ⟨rfl, rfl⟩
    have hsz : w0.heap.size + 1 ≤ W.heap.size := HS.out
    have hn47 : (n + 1) * 16 ≤ 140737488355328 := by have := HL.out; omega
    have hn48 : n + 1 ≤ 140737488355328 := by omega
    go_wp2_with (at_builtin; refine wpList_pushAt elStr W _ _ (w0.heap.size + 1) A n c _ (.string bx) HO.out rfl hsz hn47 hn48 rfl rfl rfl rfl ?_; intro A' c' w5 hown5 hb5 hg5 hat5; have HB5 := Lib.hid (HB.out.below hb5 (Nat.lt_succ_self _)); have y5 := HB5.out.cell (j := 0) rfl; have f5 := HB5.out.free 0; have HO5 := Lib.hid hown5; have HW5 := Lib.hid hb5; clear hown5 hb5 hg5 hat5)
    go_end0
    rw [HE.out]
    have hl5 : (us ++ [x]).length = n + 1 := by rw [List.length_append, HN.out]; rfl
    simp only [if_pos]
    refine ⟨True.intro, A', c', ?_, ?_, ?_⟩
    · rw [hl5]; exact HB5.out.same 0 _
    · rw [hl5, List.map_append]
      have ho := own_setM (j := 0) HO5.out (Nat.lt_succ_self _) (.slice A' (n + 1) c')
      rw [← HX.out] at ho
      exact ho
    · exact (HW.out.trans (HW5.out.mono (Nat.le_succ _))).setCell (p := ⟨w0.heap.size, 0, none⟩) (Nat.le_refl _) _
/-- What Uses tells. -/
def UsesE (s : List UInt8) (w : World) (e : Ending) (w' : World) : Prop :=
  ((parseM s).2 = true ∧ ∃ A c, e = .returned (.tuple #[.slice A (usesP (parseM s).1).length c, .int .i64 0]) ∧ w'.ownsRow (w.heap.size + 1) 9 1 (.slice A (usesP (parseM s).1).length c) (usesP (parseM s).1).length ((usesP (parseM s).1).map sv) ∧ Below w.heap.size w w') ∨
  ((parseM s).2 = false ∧ e = .returned (.tuple #[.slice none 0 0, .int .i64 3]) ∧ Below w.heap.size w w')
theorem uses_keep (s : List UInt8) (w0 : World) (m : Int) (hm : w0.cell? ⟨0, 0, none⟩ = some (.int .i64 m)) (h0 : 0 < w0.heap.size) (hl : s.length < 4294967281) :
    KeepM Try.prog 31 32 #[] #[.pointer (some ⟨w0.heap.size, 0, none⟩)] (s.length + 1) (([] : List PieceM).length + 2 * s.length + 1) ([] ++ (parseM s).1) (fun ls W => UsesAt w0 (usesP ls) W) where
  cell := fun ls W ⟨A, c, _, _, hb⟩ => ⟨m, (hb.cell (p := ⟨0, 0, none⟩) h0).trans hm⟩
  draws := fun ls W n ⟨A, c, h1, h2, h3⟩ => ⟨A, c, h1, h2, below_drewN h3 n⟩
  text := fun ls x W _ _ hI => (mNothing_any x W).mono fun e W' h => ⟨h.1, by rw [← h.2, usesP_more]; unfold stepU; simpa using hI⟩
  name := fun ls x W _ hn _ hI => (mUses1_any w0 (usesP ls) x W hI (by have := usesP_len ls; simp at hn; omega)).mono fun e W' h => ⟨h.1, by rw [usesP_more]; exact h.2⟩
set_option maxHeartbeats 1000000 in
theorem mUses_any (s : List UInt8) (w : World) (m : Int) (hm : w.cell? ⟨0, 0, none⟩ = some (.int .i64 m)) (h0 : 0 < w.heap.size) (hl : s.length < 4294967281) :
    Calls Try.prog 9 #[sv s] w (UsesE s w) := by
  have hA : UsesAt w [] (w.alloc (.cells #[.slice none 0 0] 32)) := ⟨none, 0, Blk.new w _ _, ⟨rfl, .inl ⟨rfl, rfl⟩⟩, (Below.refl _ w).alloc (Nat.le_refl _) _⟩
  have HP := Lib.hid (mParse_any 31 32 #[] #[.pointer (some ⟨w.heap.size, 0, none⟩)] (fun args w => enters_of Try.func31 (by kernel_rfl) rfl args w) (fun args w => enters_of Try.func32 (by kernel_rfl) rfl args w) s _ [] (uses_keep s w m hm h0 hl) (w.alloc (.cells #[.slice none 0 0] 32)) hA hl)
  clear hm h0 hl hA
  go_enter Try.func9, Try.ntmps9
  go_wp2_with fail
  refine HP.out.mono ?_
  rintro e w1 ⟨rfl, A, c, hb, ho, hbel⟩
  rw [List.nil_append] at hb ho
  have y := hb.cell (j := 0) rfl
  have f := hb.free 0
  have HO := Lib.hid ho
  have HW := Lib.hid hbel
  clear hb ho hbel
  cases hr : (parseM s).2 with
  | true =>
    have HR := Lib.hid hr
    clear hr
    go_wp2_with fail
    go_ret2
    exact .inl ⟨HR.out, A, c, rfl, HO.out, HW.out⟩
  | false =>
    have HR := Lib.hid hr
    clear hr
    go_wp2_with fail
    go_ret2
    exact .inr ⟨HR.out, rfl, HW.out⟩
end Go.Proofs.Ytoandhhkmkgmaaa
