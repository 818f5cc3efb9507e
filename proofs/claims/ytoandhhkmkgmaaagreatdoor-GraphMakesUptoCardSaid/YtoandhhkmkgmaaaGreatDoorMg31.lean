/- Contracts that the law's proof leans on, and plain lemmas to them, merged. No condition beyond each contract's own hypotheses. -/
import Derived.Test.YtoandhhkmkgmaaaGreatDoorMg29
import Derived.Test.YtoandhhkmkgmaaaGreatDoorMg30
import Derived.Test.YtoandhhkmkgmaaaGreatDoorMg15
import Derived.WalkSpells
import Derived.WalkLawsBesides
import Derived.BigQuiet
import Derived.Deep.QuietTactic
namespace Go.Proofs.YtoandhhkmkgmaaaGreatDoor
open Go.RowKit

def macrosP (l : List (List UInt8)) : List MacT := l.filterMap definedP
noncomputable def parseFrom (M : List MacT) : Nat → FileT → List (List UInt8) → Nat × Nat × FileT
 | _, f, [] => (0, 0, f)
 | i, f, s :: l =>
   if (definedP s).isSome = true then parseFrom M (i + 1) f l
   else if expE M s ≠ 0 then (expE M s, i + 1, emptyF)
   else if (parseR (expT M s)).1 ≠ 0 then ((parseR (expT M s)).1, i + 1, emptyF)
   else if (addP f (parseR (expT M s)).2).1 ≠ 0 then ((addP f (parseR (expT M s)).2).1, i + 1, emptyF)
   else parseFrom M (i + 1) (addP f (parseR (expT M s)).2).2 l
noncomputable def fileP (l : List (List UInt8)) : Nat × Nat × FileT :=
 if 200 < l.length then (2, 0, emptyF) else if flatsE (macrosP l) ≠ 0 then (flatsE (macrosP l), 0, emptyF) else parseFrom (macrosP l) 0 { emptyF with mac := macrosP l } l
theorem definedP_len {s : List UInt8} {m : MacT} (h : definedP s = some m) : m.1.length ≤ s.length ∧ m.2.length ≤ s.length := by
 unfold definedP at h
 split at h
 ·injection h with h
  subst h
  have h1 := trimBL_len (s.take (s.idxOf 61))
  have h2 := trimBL_len (s.drop (s.idxOf 61 + 1))
  rw [List.length_take] at h1
  rw [List.length_drop] at h2
  exact ⟨by dsimp only; omega, by dsimp only; omega⟩
 ·cases h
theorem parseR_ok {s : List UInt8} (h : (parseR s).1 = 0) : rlE (parseR s).2 = 0 ∧ (parseR s).2 = halves s := by
 unfold parseR at h ⊢
 split
 ·rename_i h1
  rw [if_pos h1] at h
  split
  ·rename_i h2
   exact ⟨h2, rfl⟩
  ·rename_i h2
   rw [if_neg h2] at h
   exact absurd h h2
 ·rename_i h1
  rw [if_neg h1] at h
  cases h
theorem rlE_lens {r : RuleT} (h : rlE r = 0) : 0 < r.1.length ∧ r.1.length ≤ 20 ∧ r.2.length ≤ 20 := by
 by_cases h1 : 20 < r.1.length ∨ 20 < r.2.length
 ·rw [rlE_2 h1] at h; cases h
 ·by_cases h2 : r.1.length = 0
  ·unfold rlE at h
   rw [if_neg h1, if_pos (.inl h2)] at h
   cases h
  ·omega
theorem halves_each (s : List UInt8) : (∀ y ∈ (halves s).1, y.length ≤ s.length) ∧ (∀ y ∈ (halves s).2, y.length ≤ s.length) := by
 unfold halves
 refine ⟨fun y hy => ?_, fun y hy => ?_⟩
 ·have := words_each _ y hy
  rw [List.length_take] at this
  omega
 ·have := words_each _ y hy
  rw [List.length_drop] at this
  omega

theorem fresh_far {w : World} {x : RSlot} {ob : Option Nat} (h1 : FreshA w x.1.1) (h2 : FreshA w x.2.1.1) (hob : ∀ g, ob = some g → g < w.heap.size) : farS x ob :=
 ⟨fun g off hA _ e => by have := h1 g off none hA; have := hob g e.symm; omega, fun g off hA _ e => by have := h2 g off none hA; have := hob g e.symm; omega⟩
theorem parsed_in {s : List UInt8} {w w' : World} {e : Ending} (hs : s.length ≤ 2001) (h0 : (parseR s).1 = 0) (h : PaPostG s w e w') :
 ∃ x : RSlot, x.2.2 = (parseR s).2 ∧ e = .returned (.tuple #[.agg #[rsT x, rsN x], .int .i64 0]) ∧ RsIn x w' ∧ Below w.heap.size w w' ∧ FreshA w x.1.1 ∧ FreshA w x.2.1.1 ∧ x.2.2.2.length ≤ 20 ∧ ∃ t0, x.2.2.1[0]? = some t0 ∧ t0.length ≤ 2001 := by
 obtain ⟨A1, c1, A2, c2, h1, h2, h3, h4, h5, h6, h7, h8⟩ := h
 obtain ⟨g1, g2⟩ := parseR_ok h0
 obtain ⟨g3, g4, g5⟩ := rlE_lens g1
 obtain ⟨e1, e2⟩ := halves_each s
 rw [← g2] at e1 e2
 refine ⟨((A1, c1), (A2, c2), (parseR s).2), rfl, by rw [h1, h0]; rfl, ⟨h2, h3, rfl, rfl, by dsimp only; omega, by dsimp only; omega, h7, h8, fun y hy => by have := e1 y hy; omega, fun y hy => by have := e2 y hy; omega⟩, h4, h5, h6, g5, ?_⟩
 refine ⟨(parseR s).2.1[0]'g3, List.getElem?_eq_getElem g3, ?_⟩
 have := e1 _ (List.getElem_mem g3)
 omega
structure FileAt (lo : Nat) (f : FileT) (L : List RSlot) (v0 v1 v2 v3 : Value) (w : World) : Prop where
 own : ∀ r ∈ rowsF f L v0 v1 v2 v3, w.ownsRow lo r.t r.z r.v r.n r.xs
 each : ∀ x ∈ L, RsIn x w
 rul : rulesOf L = f.rul
theorem FileAt.none (lo : Nat) (w : World) : FileAt lo emptyF [] (.slice none 0 0) (.slice none 0 0) (.slice none 0 0) (.slice none 0 0) w := by
 refine ⟨fun r hr => ?_, (fun x hx => by cases hx), rfl⟩
 unfold rowsF at hr
 simp only [List.mem_cons, List.not_mem_nil, or_false] at hr
 rcases hr with rfl | rfl | rfl | rfl <;> exact World.ownsRow_nil _ _ _ _
def ParsePost (l : List (List UInt8)) (w : World) (e : Ending) (w' : World) : Prop :=
 Below w.heap.size w w' ∧ ∃ (L : List RSlot) (v0 v1 v2 v3 : Value), e = .returned (.tuple #[.agg #[v0, v1, v2, v3], .int .i64 (((fileP l).2.1 : Nat) : Int), .int .i64 (((fileP l).1 : Nat) : Int)]) ∧ FileAt w.heap.size (fileP l).2.2 L v0 v1 v2 v3 w'
end Go.Proofs.YtoandhhkmkgmaaaGreatDoor
namespace Go.Proofs.YtoandhhkmkgmaaaGreatDoor
open Go.RowKit

theorem ButLo.toBelow {k lo B : Nat} {w W1 W' : World} (h : Below k w W1) (hb : ButLo lo B W1 W') (hk : k ≤ B) (hB : B < lo) : Below k w W' :=
 h.trans ⟨hb.os, hb.tape, hb.output, hb.size, fun j hj => hb.block j (by omega) (by omega)⟩
theorem RowsAt.start (W0 : World) : RowsAt (W0.heap.size + 1) W0.heap.size 27 (rowsF emptyF [] (.slice none 0 0) (.slice none 0 0) (.slice none 0 0) (.slice none 0 0)) [] (W0.alloc (.cells #[.slice none 0 0, .slice none 0 0, .slice none 0 0, .slice none 0 0] 27)) := by
 have hv : ∀ r ∈ rowsF emptyF [] (.slice none 0 0) (.slice none 0 0) (.slice none 0 0) (.slice none 0 0), r.v = .slice none 0 0 := fun r hr => by
  unfold rowsF at hr
  simp only [List.mem_cons, List.not_mem_nil, or_false] at hr
  rcases hr with rfl | rfl | rfl | rfl <;> rfl
 refine ⟨by omega, Blk.new W0 _ _, (FileAt.none _ _).own, fun i j r s g hr hs hij hg => ?_, (fun x hx => by cases hx), (fun x hx => by cases hx), (fun x hx => by cases hx), by simp⟩
 rw [hv r (List.mem_of_getElem? hr)] at hg
 cases hg
theorem rowsF_mac {f : FileT} {L : List RSlot} {v1 v2 v3 u1 u2 : Value} {A : Option Addr} {n c g c' : Nat} {p : MacT} (hn : f.mac.length = n) (h1 : sv p.1 = u1) (h2 : sv p.2 = u2) :
 (rowsF f L (.slice A n c) v1 v2 v3).set 0 ⟨71, 2, .slice (some ⟨g, 0, none⟩) (n + 1) c', n + 1, macV f.mac ++ [u1, u2]⟩ = rowsF { f with mac := f.mac ++ [p] } L (.slice (some ⟨g, 0, none⟩) (n + 1) c') v1 v2 v3 := by
 subst h1 h2
 unfold rowsF macV
 simp [hn]
theorem macrosP_snoc {l : List (List UInt8)} {j : Nat} {s : List UInt8} (h : l[j]? = some s) : macrosP (l.take (j + 1)) = macrosP (l.take j) ++ (definedP s).toList := by
 unfold macrosP
 rw [List.take_add_one, h, List.filterMap_append]
 cases hd : definedP s <;> simp [hd]
theorem macrosP_len (l : List (List UInt8)) : (macrosP l).length ≤ l.length := by
 unfold macrosP
 exact List.length_filterMap_le _ _
def put4P (w : World) (b : Nat) (v0 v1 v2 v3 : Value) : World := (((w.setCell ⟨b, 0, none⟩ v0).setCell ⟨b, 1, none⟩ v1).setCell ⟨b, 2, none⟩ v2).setCell ⟨b, 3, none⟩ v3
theorem Blk.put4P {w : World} {b : Nat} {t : TypeId} {x0 x1 x2 x3 : Value} (h : Blk w b t [x0, x1, x2, x3]) (v0 v1 v2 v3 : Value) : Blk (put4P w b v0 v1 v2 v3) b t [v0, v1, v2, v3] := (((h.same 0 v0).same 1 v1).same 2 v2).same 3 v3
theorem below_put4P {B b : Nat} {a w : World} (h : Below B a w) (hb : B ≤ b) (v0 v1 v2 v3 : Value) : Below B a (put4P w b v0 v1 v2 v3) := (((h.setCell (p := ⟨b, 0, none⟩) hb v0).setCell (p := ⟨b, 1, none⟩) hb v1).setCell (p := ⟨b, 2, none⟩) hb v2).setCell (p := ⟨b, 3, none⟩) hb v3
theorem own_baseF {w : World} {B B' n z : Nat} {e : TypeId} {v : Value} {xs : List Value} (h : w.ownsRow B e z v n xs) (hb : B' ≤ B) : w.ownsRow B' e z v n xs := by
 obtain ⟨h1, h | ⟨g, cap, cur, hv, hg, hr⟩⟩ := h
 ·exact ⟨h1, .inl h⟩
 ·exact ⟨h1, .inr ⟨g, cap, cur, hv, Nat.le_trans hb hg, hr⟩⟩
theorem FileAt.put {lo B b b' : Nat} {T : TypeId} {f : FileT} {L : List RSlot} {v0 v1 v2 v3 : Value} {w : World} (h : RowsAt lo B T (rowsF f L v0 v1 v2 v3) L w) (hL : rulesOf L = f.rul) (hb : b < lo) (hf : ∀ x ∈ L, farS x (some b)) (hb' : b' ≤ lo) (u0 u1 u2 u3 : Value) : FileAt b' f L v0 v1 v2 v3 (put4P w b u0 u1 u2 u3) :=
 ⟨fun r hr => own_baseF (own_setB (own_setB (own_setB (own_setB (h.own r hr) hb u0) hb u1) hb u2) hb u3) hb',
  fun x hx => RsIn.setB u3 (RsIn.setB u2 (RsIn.setB u1 (RsIn.setB u0 (h.each x hx) (hf x hx)) (hf x hx)) (hf x hx)) (hf x hx), hL⟩
theorem addP_mac (f : FileT) (r : RuleT) : (addP f r).2.mac = f.mac := by
 unfold addP
 repeat' split
 all_goals first | rfl | (dsimp only; split <;> rfl)
theorem addP_keeps {f : FileT} {r : RuleT} {q : Nat} (h : (addP f r).1 = 0) (h1 : f.pho.length ≤ 20) (h2 : f.rul.length ≤ 100) (h3 : f.inf.length ≤ q) : (addP f r).2.pho.length ≤ 20 ∧ (addP f r).2.rul.length ≤ 100 ∧ (addP f r).2.inf.length ≤ q + 1 := by
 by_cases hph : phonyW ∈ r.1
 ·by_cases hl : 1 < r.1.length
  ·rw [addP_one hph hl] at h; cases h
  ·rw [addP_ph hph hl] at h ⊢
   by_cases h20 : 20 < (addAllO f.pho r.2).length
   ·dsimp only at h; rw [if_pos h20] at h; cases h
   ·exact ⟨by dsimp only; omega, h2, by dsimp only; omega⟩
 ·by_cases hc : ∃ p, pairP (r.1.headD []) = some p ∧ (r.1.length = 1 ∧ r.2.length = 0)
  ·obtain ⟨p, hp, hl⟩ := hc
   rw [addP_inf hph hp hl]
   dsimp only
   split
   ·exact ⟨h1, h2, by omega⟩
   ·exact ⟨h1, h2, by simp; omega⟩
  ·rw [addP_rule hph (by
    cases hp : pairP (r.1.headD []) with
    | none => exact .inl rfl
    | some p => exact .inr (fun hl => hc ⟨p, hp, hl⟩))] at h ⊢
   by_cases h100 : 100 < f.rul.length + 1
   ·dsimp only at h; rw [if_pos h100] at h; cases h
   ·exact ⟨h1, by simp; omega, by dsimp only; omega⟩
theorem Blk.butLo {w w' : World} {b lo B : Nat} {t : TypeId} {vs : List Value} (h : Blk w b t vs) (hb : ButLo lo B w w') (h1 : b < lo) (h2 : b ≠ B) : Blk w' b t vs := by
 unfold Blk
 rw [hb.block b h1 h2]
 exact h
theorem fileP_flat {l : List (List UInt8)} (h1 : ¬ 200 < l.length) (h2 : flatsE (macrosP l) ≠ 0) : fileP l = (flatsE (macrosP l), 0, emptyF) := by unfold fileP; rw [if_neg h1, if_pos h2]
theorem fileP_from {l : List (List UInt8)} (h1 : ¬ 200 < l.length) (h2 : flatsE (macrosP l) = 0) : fileP l = parseFrom (macrosP l) 0 { emptyF with mac := macrosP l } l := by unfold fileP; rw [if_neg h1, if_neg (fun e => e h2)]
theorem fileP_big {l : List (List UInt8)} (h : 200 < l.length) : fileP l = (2, 0, emptyF) := if_pos h
set_option maxRecDepth 100000 in
set_option maxHeartbeats 8000000 in
theorem fParse_any {A : Option Addr} {n c : Nat} (l : List (List UInt8)) (w : World) (hr : Rd w A (l.map sv)) (hn : l.length = n) (hs : ∀ s ∈ l, s.length ≤ 1048640) (mx : Int) (hmx : w.cell? ⟨1, 0, none⟩ = some (.int .i64 mx)) (h0 : 1 < w.heap.size) :
 Calls Tryz.prog 9 #[.slice A n c] w (ParsePost l w) := by
 have HR := Lib.hid hr
 have HN := Lib.hid hn
 have HS := Lib.hid hs
 have HMX := Lib.hid (fun W' (hb : Below w.heap.size w W') => cell_belowF hmx h0 hb)
 have HG0 := Lib.hid h0
 have HB0 := Lib.hid (below_new (Below.refl w.heap.size w) (.cells #[.slice none 0 0, .slice none 0 0, .slice none 0 0, .slice none 0 0] 27))
 have HK0 := Lib.hid (Blk.new w #[.slice none 0 0, .slice none 0 0, .slice none 0 0, .slice none 0 0] 27)
 have HSZ : Hid ((w.alloc (.cells #[.slice none 0 0, .slice none 0 0, .slice none 0 0, .slice none 0 0] 27)).heap.size = w.heap.size + 1) := Lib.hid (by simp)
 clear hr hn hs hmx h0
 go_enter Tryz.func9, Tryz.ntmps9
 go_upto_region 1 with fail
 generalize w.alloc (.cells #[.slice none 0 0, .slice none 0 0, .slice none 0 0, .slice none 0 0] 27) = w0 at *
 generalize hb : w.heap.size = b at *
 have HBB := Lib.hid hb
 clear hb
 have c0 := HK0.out.cell (j := 0) rfl
 have c1 := HK0.out.cell (j := 1) rfl
 have c2 := HK0.out.cell (j := 2) rfl
 have c3 := HK0.out.cell (j := 3) rfl
 have f0 := HK0.out.free 0
 have f1 := HK0.out.free 1
 have f2 := HK0.out.free 2
 have f3 := HK0.out.free 3
 by_cases h200 : 200 < n
 ·have q1 : decide ((200 : Int) < (n : Int)) = true := by simp; omega
  have HE := Lib.hid (fileP_big (l := l) (by rw [HN.out]; exact h200))
  clear h200
  go_wp2_with fail
  have RZ := Lib.hid (HK0.out.put4P (.slice none 0 0) (.slice none 0 0) (.slice none 0 0) (.slice none 0 0))
  have BZ := Lib.hid (below_put4P HB0.out (Nat.le_refl _) (.slice none 0 0) (.slice none 0 0) (.slice none 0 0) (.slice none 0 0))
  show bodyPost _ _ _ _ _ (put4P w0 b (.slice none 0 0) (.slice none 0 0) (.slice none 0 0) (.slice none 0 0))
  generalize put4P w0 b (.slice none 0 0) (.slice none 0 0) (.slice none 0 0) (.slice none 0 0) = wz at *
  have g0 := RZ.out.cell (j := 0) rfl
  have g1 := RZ.out.cell (j := 1) rfl
  have g2 := RZ.out.cell (j := 2) rfl
  have g3 := RZ.out.cell (j := 3) rfl
  refine bodyPost_ret (v := .tuple #[.agg #[.slice none 0 0, .slice none 0 0, .slice none 0 0, .slice none 0 0], .int .i64 0, .int .i64 2]) (by simp [results, Tryz.results9, go_sem, g0, g1, g2, g3]) rfl ?_
  exact ⟨by rw [HBB.out]; exact BZ.out, [], _, _, _, _, by rw [HE.out]; rfl, by rw [HE.out]; exact FileAt.none _ _⟩
 ·have q1 : decide ((200 : Int) < (n : Int)) = false := by simp; omega
  have hn200 : n ≤ 200 := by omega
  clear h200 c0 c1 c2 c3 f0 f1 f2 f3
  have HRS := Lib.hid (RowsAt.start w0)
  have HB1 := Lib.hid (HB0.out.trans ((below_new (Below.refl w0.heap.size w0) (.cells #[.slice none 0 0, .slice none 0 0, .slice none 0 0, .slice none 0 0] 27)).mono (by have := HSZ.out; omega)))
  have HKB := Lib.hid (HK0.out.below (below_new (Below.refl w0.heap.size w0) (.cells #[.slice none 0 0, .slice none 0 0, .slice none 0 0, .slice none 0 0] 27)) HK0.out.lt)
  go_upto_region 4 with fail
  rw [HSZ.out] at HRS
  rw [HSZ.out]
  generalize w0.alloc (.cells #[.slice none 0 0, .slice none 0 0, .slice none 0 0, .slice none 0 0] 27) = w1 at *
  go_wp2_with fail
  go_loopw [25] (fun i wr => ∃ (j : Nat) (v0 : Value), j ≤ n ∧ i = .int .i64 (j : Int) ∧ Hid (RowsAt (b + 1 + 1) (b + 1) 27 (rowsF { emptyF with mac := macrosP (l.take j) } [] v0 (.slice none 0 0) (.slice none 0 0) (.slice none 0 0)) [] wr) ∧ Hid (ButLo (b + 1 + 1) (b + 1) w1 wr)) (fun i _ => n - (intOf i).toNat)
  case atStart => exact ⟨0, _, by omega, rfl, HRS, Lib.hid (ButLo.refl _ _ _)⟩
  case round =>
   obtain ⟨j, v0, hj, rfl, HRj, HBj⟩ := hrel
   have HBL := Lib.hid (ButLo.toBelow HB1.out HBj.out (by omega) (by omega))
   by_cases hlt : j < n
   ·obtain ⟨s, hx⟩ : ∃ s, l[j]? = some s := ⟨_, List.getElem?_eq_getElem (by rw [HN.out]; exact hlt)⟩
    obtain ⟨bA, off, rfl, hc⟩ := Rd.scell (HR.out.below (by rw [HBB.out]; exact HBL.out)) hx
    have HDF := Lib.hid (show Calls Tryz.prog 34 #[.string ⟨s.toArray⟩] wr (DefPost s wr) from fDefines_any s (HS.out s (List.mem_of_getElem? hx)) wr)
    have HMS := Lib.hid (macrosP_snoc hx)
    have HML : Hid ((macrosP (l.take j)).length ≤ 200) := Lib.hid (by have := macrosP_len (l.take j); rw [List.length_take] at this; omega)
    obtain ⟨A0, r0, hv0⟩ := slice_ofF (HRj.out.own ⟨71, 2, v0, (macrosP (l.take j)).length, macV (macrosP (l.take j))⟩ (by unfold rowsF; simp))
    dsimp only at hv0
    subst hv0
    generalize hM : macrosP (l.take j) = M at *
    obtain ⟨n0, hn0⟩ : ∃ n0, M.length = n0 := ⟨_, rfl⟩
    have HN0 := Lib.hid hn0
    rw [hn0] at HRj HML
    generalize (⟨s.toArray⟩ : ByteArray) = bs at hc HDF
    have j0 : (0 : Int) ≤ (j : Int) := by omega
    have j1 : (j : Int) < (n : Int) := by omega
    clear hx hM hn0
    go_wp2_with fail
    refine HDF.out.mono ?_
    rintro e w2 ⟨hb2, mn, mv, hmv, rfl⟩
    have HR2 := Lib.hid (HRj.out.below hb2)
    have HW2 := Lib.hid (HBj.out.below hb2 HRj.out.top)
    have HMV := Lib.hid hmv
    obtain ⟨bn, hbn⟩ : ∃ bn, sv mn = .string bn := ⟨_, rfl⟩
    obtain ⟨bv, hbv⟩ : ∃ bv, sv mv = .string bv := ⟨_, rfl⟩
    rw [hbn, hbv]
    have HBN := Lib.hid hbn
    have HBV := Lib.hid hbv
    have hb3 := below_new (Below.refl w2.heap.size w2) (.cells #[.string bn, .string bv] 71)
    have HR3 := Lib.hid (HR2.out.below hb3)
    have HW3 := Lib.hid (HW2.out.below hb3 HR2.out.top)
    have HK8 := Lib.hid (Blk.new w2 #[.string bn, .string bv] 71)
    clear hb2 hmv hbn hbv hb3
    cases hd : definedP s with
    | none =>
      have HD := Lib.hid hd
      simp only [Option.isSome_none]
      clear hd
      go_wp2_with fail
      go_roundw
      case rel => exact ⟨j + 1, _, by omega, by go_num, by rw [HMS.out, HD.out]; simpa using HR3, HW3⟩
      case measure => simp [intOf]; omega
    | some m =>
      have HD : Hid (definedP s = some (mn, mv)) := Lib.hid (by rw [hd]; have := HMV.out; rw [hd] at this; exact congrArg some this.symm)
      simp only [Option.isSome_some]
      clear hd
      go_upto_region 9 with fail
      generalize w2.alloc (.cells #[.string bn, .string bv] 71) = w3 at *
      generalize w2.heap.size = k8 at *
      have m0 : w3.cell? ⟨b + 1, 0, none⟩ = some (.slice A0 n0 r0) := HR3.out.box.cell (j := 0) rfl
      have d0 : w3.cell? ⟨k8, 0, none⟩ = some (.string bn) := HK8.out.cell (j := 0) rfl
      have d1 : w3.cell? ⟨k8, 1, none⟩ = some (.string bv) := HK8.out.cell (j := 1) rfl
      have HRK : Hid ((rowsF { emptyF with mac := M } [] (.slice A0 n0 r0) (.slice none 0 0) (.slice none 0 0) (.slice none 0 0))[0]? = some ⟨71, 2, .slice A0 n0 r0, n0, macV M⟩) := Lib.hid (by unfold rowsF; simp [HN0.out])
      go_wp2_with (at_builtin; refine wpList_pushF w3 _ _ HR3.out 0 elMacF A0 n0 r0 (macV M) HRK.out #[.string bn, .string bv] rfl (by intro u hu; simp at hu; rcases hu with rfl | rfl <;> rfl) (by have := HML.out; omega) (by have := HML.out; omega) (N := []) (by simp) rfl rfl rfl rfl ?_; intro g c' w4 hb4 hr4 hw4; have e0 := hb4.cell (j := 0) rfl; have e1 := hb4.free 0; have HR4 := Lib.hid hr4; have HW4 := Lib.hid hw4; clear hb4 hr4 hw4)
      go_roundw
      case rel => exact ⟨j + 1, .slice (some ⟨g, 0, none⟩) (n0 + 1) c', by omega, by go_num, Lib.hid (by
       have hh := HR4.out
       rw [HMS.out, HD.out, Option.toList_some, ← rowsF_mac (f := { emptyF with mac := M }) (A := A0) (c := r0) HN0.out (p := (mn, mv)) HBN.out HBV.out]
       exact hh), Lib.hid (HW3.out.trans HW4.out)⟩
      case measure => simp [intOf]; omega
   ·obtain rfl : j = n := by omega
    have hMA : macrosP (l.take j) = macrosP l := by rw [List.take_of_length_le (by have := HN.out; omega)]
    rw [hMA] at HRj
    clear hMA
    have HML : Hid ((macrosP l).length ≤ 200) := Lib.hid (by have := macrosP_len l; have := HN.out; omega)
    have HSM : Hid (∀ x ∈ macrosP l, x.1.length ≤ 9223372036854775807 ∧ x.2.length < 4294967281) := Lib.hid (fun x hx => by
     unfold macrosP at hx
     obtain ⟨s, hs, hd⟩ := List.mem_filterMap.1 hx
     have h1 := definedP_len hd
     have h2 := HS.out s hs
     exact ⟨by omega, by omega⟩)
    have HFB : Hid (flatsE (macrosP l) ≠ 0 → fileP l = (flatsE (macrosP l), 0, emptyF)) := Lib.hid (fun h => fileP_flat (by rw [HN.out]; omega) h)
    have HFO : Hid (flatsE (macrosP l) = 0 → fileP l = parseFrom (macrosP l) 0 { emptyF with mac := macrosP l } l) := Lib.hid (fun h => fileP_from (by rw [HN.out]; omega) h)
    obtain ⟨A0, r0, hv0⟩ := slice_ofF (HRj.out.own ⟨71, 2, v0, (macrosP l).length, macV (macrosP l)⟩ (by unfold rowsF; simp))
    dsimp only at hv0
    subst hv0
    generalize macrosP l = M at *
    obtain ⟨n0, hn0⟩ : ∃ n0, M.length = n0 := ⟨_, rfl⟩
    have HN0 := Lib.hid hn0
    have HRD0 := Lib.hid (Rd.own2 (HRj.out.own ⟨71, 2, .slice A0 M.length r0, M.length, macV M⟩ (by unfold rowsF; simp)))
    rw [hn0] at HRj HML HRD0
    clear hn0
    have m0 : wr.cell? ⟨b + 1, 0, none⟩ = some (.slice A0 n0 r0) := HRj.out.box.cell (j := 0) rfl
    have HKr := Lib.hid (HKB.out.butLo HBj.out (by omega) (by omega))
    have HGr : Hid (1 < wr.heap.size) := Lib.hid (Nat.lt_of_lt_of_le (by have := HG0.out; have := HBB.out; omega) HBL.out.size)
    have HMr : Hid (wr.cell? ⟨1, 0, none⟩ = some (.int .i64 mx)) := Lib.hid (HMX.out wr HBL.out)
    have HFL := Lib.hid (mFlatAll_any (c := r0) M mx wr HRD0.out HN0.out (by have := HML.out; omega) HSM.out HMr.out HGr.out)
    go_wp2_with fail
    refine HFL.out.mono ?_
    rintro e w2 ⟨hb2, (⟨hbad, rfl⟩ | ⟨hok, AF, cF, rfl, hown⟩)⟩
    ·have HE := Lib.hid (HFB.out hbad)
     have HB2 := Lib.hid (HBL.out.trans (hb2.mono (by have := HKr.out.lt; omega)))
     have HK2 := Lib.hid (HKr.out.below hb2 HKr.out.lt)
     have p1 : (((flatsE M : Nat) : Int) != 0) = true := by simp; omega
     generalize flatsE M = E0 at *
     clear hbad hb2
     have c0 := HK2.out.cell (j := 0) rfl
     have c1 := HK2.out.cell (j := 1) rfl
     have c2 := HK2.out.cell (j := 2) rfl
     have c3 := HK2.out.cell (j := 3) rfl
     have f0 := HK2.out.free 0
     have f1 := HK2.out.free 1
     have f2 := HK2.out.free 2
     have f3 := HK2.out.free 3
     go_wp2_with fail
     have RZ := Lib.hid (HK2.out.put4P (.slice none 0 0) (.slice none 0 0) (.slice none 0 0) (.slice none 0 0))
     have BZ := Lib.hid (below_put4P HB2.out (Nat.le_refl _) (.slice none 0 0) (.slice none 0 0) (.slice none 0 0) (.slice none 0 0))
     show bodyPost _ _ _ _ _ (put4P w2 b (.slice none 0 0) (.slice none 0 0) (.slice none 0 0) (.slice none 0 0))
     generalize put4P w2 b (.slice none 0 0) (.slice none 0 0) (.slice none 0 0) (.slice none 0 0) = wz at *
     have g0 := RZ.out.cell (j := 0) rfl
     have g1 := RZ.out.cell (j := 1) rfl
     have g2 := RZ.out.cell (j := 2) rfl
     have g3 := RZ.out.cell (j := 3) rfl
     refine bodyPost_ret (v := .tuple #[.agg #[.slice none 0 0, .slice none 0 0, .slice none 0 0, .slice none 0 0], .int .i64 0, .int .i64 (E0 : Int)]) (by simp [results, Tryz.results9, go_sem, g0, g1, g2, g3]) rfl ?_
     exact ⟨by rw [HBB.out]; exact BZ.out, [], _, _, _, _, by rw [HE.out]; rfl, by rw [HE.out]; exact FileAt.none _ _⟩
    ·have HE := Lib.hid (HFO.out hok)
     have HB2 := Lib.hid (HBL.out.trans (hb2.mono (by have := HKr.out.lt; omega)))
     have HR2 := Lib.hid (HRj.out.below hb2)
     have HW2 := Lib.hid (HBj.out.below hb2 HRj.out.top)
     clear hb2 hown hok HFB HFO HRj HBj HFL HGr HMr HKr m0 HRD0
     go_wp2_with fail
     go_loopw [54] (fun i wq => ∃ (q : Nat) (f : FileT) (L : List RSlot) (v0 v1 v2 v3 : Value), q ≤ j ∧ i = .int .i64 (q : Int) ∧ Hid (RowsAt (b + 1 + 1) (b + 1) 27 (rowsF f L v0 v1 v2 v3) L wq) ∧ Hid (rulesOf L = f.rul) ∧ Hid (ButLo (b + 1 + 1) (b + 1) w1 wq) ∧ Hid (f.mac = M) ∧ Hid (f.pho.length ≤ 20 ∧ f.rul.length ≤ 100 ∧ f.inf.length ≤ q) ∧ Hid (fileP l = parseFrom M q f (l.drop q)) ∧ Hid (∀ x ∈ L, farS x (some b))) (fun i _ => j - (intOf i).toNat)
     case atStart => exact ⟨0, { emptyF with mac := M }, [], _, _, _, _, by omega, rfl, HR2, Lib.hid rfl, HW2, Lib.hid rfl, Lib.hid ⟨by simp [emptyF], by simp [emptyF], by simp [emptyF]⟩, HE, Lib.hid (fun x hx => by cases hx)⟩
     case round =>
      obtain ⟨q, f, L, v0, v1, v2, v3, hq, rfl, HRq, HLq, HBq, HMq, HCq, HEq, HFq⟩ := hrel
      have HBLq := Lib.hid (ButLo.toBelow HB1.out HBq.out (by omega) (by omega))
      by_cases hlt : q < j
      ·obtain ⟨s, hx⟩ : ∃ s, l[q]? = some s := ⟨_, List.getElem?_eq_getElem (by rw [HN.out]; exact hlt)⟩
       have hdr : l.drop q = s :: l.drop (q + 1) := by
        obtain ⟨h1, h2⟩ := List.getElem?_eq_some_iff.1 hx
        rw [List.drop_eq_getElem_cons h1, h2]
       have HST := Lib.hid (HEq.out.trans (congrArg (parseFrom M q f) hdr))
       have HSS := Lib.hid (HS.out s (List.mem_of_getElem? hx))
       obtain ⟨bA, off, rfl, hc⟩ := Rd.scell (HR.out.below (by rw [HBB.out]; exact HBLq.out)) hx
       have HDF := Lib.hid (show Calls Tryz.prog 34 #[.string ⟨s.toArray⟩] wr (DefPost s wr) from fDefines_any s HSS.out wr)
       have j0 : (0 : Int) ≤ (q : Int) := by omega
       have j1 : (q : Int) < (j : Int) := by omega
       clear hx hdr
       go_wp2_with fail
       refine HDF.out.mono ?_
       rintro e w3 ⟨hb3, mn, mv, hmv, rfl⟩
       have HR3 := Lib.hid (HRq.out.below hb3)
       have HW3 := Lib.hid (HBq.out.below hb3 HRq.out.top)
       obtain ⟨bn, hbn⟩ : ∃ bn, sv mn = .string bn := ⟨_, rfl⟩
       obtain ⟨bv, hbv⟩ : ∃ bv, sv mv = .string bv := ⟨_, rfl⟩
       rw [hbn, hbv]
       have hb4 := below_new (Below.refl w3.heap.size w3) (.cells #[.string bn, .string bv] 71)
       have HR4 := Lib.hid (HR3.out.below hb4)
       have HW4 := Lib.hid (HW3.out.below hb4 HR3.out.top)
       clear hb3 hmv hbn hbv hb4
       cases hd : (definedP s).isSome with
       | true =>
         have HD := Lib.hid hd
         clear hd
         go_wp2_with fail
         go_roundw
         case rel => exact ⟨q + 1, f, L, v0, v1, v2, v3, by omega, by go_num, HR4, HLq, HW4, HMq, Lib.hid ⟨HCq.out.1, HCq.out.2.1, by have := HCq.out.2.2; omega⟩, Lib.hid (by rw [HST.out, parseFrom, if_pos HD.out]), HFq⟩
         case measure => simp [intOf]; omega
       | false =>
         have HD := Lib.hid hd
         clear hd
         go_upto_region 18 with fail
         generalize w3.alloc (.cells #[.string bn, .string bv] 71) = w4 at *
         generalize w3.heap.size = k8 at *
         obtain ⟨A5, r5, hv5⟩ := slice_ofF (HR4.out.own ⟨71, 2, v0, f.mac.length, macV f.mac⟩ (by unfold rowsF; simp))
         dsimp only at hv5
         subst hv5
         have HRD5 := Lib.hid (Rd.own2 (HR4.out.own ⟨71, 2, .slice A5 f.mac.length r5, f.mac.length, macV f.mac⟩ (by unfold rowsF; simp)))
         have m5 : w4.cell? ⟨b + 1, 0, none⟩ = some (.slice A5 f.mac.length r5) := HR4.out.box.cell (j := 0) rfl
         have HBL4 := Lib.hid (ButLo.toBelow HB1.out HW4.out (by omega) (by omega))
         have HG4 : Hid (1 < w4.heap.size) := Lib.hid (Nat.lt_of_lt_of_le (by have := HG0.out; have := HBB.out; omega) HBL4.out.size)
         have HXP := Lib.hid (show Calls Tryz.prog 36 #[.slice A5 f.mac.length r5, .string ⟨s.toArray⟩] w4 (ExpPost M s w4) from mExpand_any (c := r5) M s mx w4 (HMq.out ▸ HRD5.out) (by rw [HMq.out]) (by rw [HMq.out, HN0.out]; have := HML.out; omega) HSM.out (by have := HSS.out; omega) (HMX.out w4 HBL4.out) HG4.out)
         generalize (⟨s.toArray⟩ : ByteArray) = bs at *
         go_wp2_with fail
         refine HXP.out.mono ?_
         rintro e w5 ⟨hb5, rfl⟩
         have HR5 := Lib.hid (HR4.out.below hb5)
         have HW5 := Lib.hid (HW4.out.below hb5 HR4.out.top)
         clear hb5 HXP m5 HRD5
         by_cases he : expE M s ≠ 0
         ·have HEX : Hid (fileP l = (expE M s, q + 1, emptyF)) := Lib.hid (by rw [HST.out, parseFrom, if_neg (by rw [HD.out]; decide), if_pos he])
          have HB5 := Lib.hid (ButLo.toBelow HB1.out HW5.out (by omega) (by omega))
          have HK5 := Lib.hid (HKB.out.butLo HW5.out (by omega) (by omega))
          have p1 : (((expE M s : Nat) : Int) != 0) = true := by simp; omega
          generalize expE M s = E0 at *
          clear he
          have c0 := HK5.out.cell (j := 0) rfl
          have c1 := HK5.out.cell (j := 1) rfl
          have c2 := HK5.out.cell (j := 2) rfl
          have c3 := HK5.out.cell (j := 3) rfl
          have f0 := HK5.out.free 0
          have f1 := HK5.out.free 1
          have f2 := HK5.out.free 2
          have f3 := HK5.out.free 3
          go_wp2_with fail
          have RZ := Lib.hid (HK5.out.put4P (.slice none 0 0) (.slice none 0 0) (.slice none 0 0) (.slice none 0 0))
          have BZ := Lib.hid (below_put4P HB5.out (Nat.le_refl _) (.slice none 0 0) (.slice none 0 0) (.slice none 0 0) (.slice none 0 0))
          show bodyPost _ _ _ _ _ (put4P w5 b (.slice none 0 0) (.slice none 0 0) (.slice none 0 0) (.slice none 0 0))
          generalize put4P w5 b (.slice none 0 0) (.slice none 0 0) (.slice none 0 0) (.slice none 0 0) = wz at *
          have g0 := RZ.out.cell (j := 0) rfl
          have g1 := RZ.out.cell (j := 1) rfl
          have g2 := RZ.out.cell (j := 2) rfl
          have g3 := RZ.out.cell (j := 3) rfl
          refine bodyPost_ret (v := .tuple #[.agg #[.slice none 0 0, .slice none 0 0, .slice none 0 0, .slice none 0 0], .int .i64 ((q : Int) + 1), .int .i64 (E0 : Int)]) (by simp [results, Tryz.results9, go_sem, g0, g1, g2, g3]) rfl ?_
          exact ⟨by rw [HBB.out]; exact BZ.out, [], _, _, _, _, by rw [HEX.out]; rfl, by rw [HEX.out]; exact FileAt.none _ _⟩
         ·have he0 : expE M s = 0 := by omega
          have HT : Hid ((expT M s).length ≤ 2000) := Lib.hid (by unfold expT; rw [if_pos he0]; exact flatP_short _ _)
          have HS2 : Hid (fileP l = if (parseR (expT M s)).1 ≠ 0 then ((parseR (expT M s)).1, q + 1, emptyF) else if (addP f (parseR (expT M s)).2).1 ≠ 0 then ((addP f (parseR (expT M s)).2).1, q + 1, emptyF) else parseFrom M (q + 1) (addP f (parseR (expT M s)).2).2 (l.drop (q + 1))) := Lib.hid (by rw [HST.out, parseFrom, if_neg (by rw [HD.out]; decide), if_neg he])
          have p1 : (((expE M s : Nat) : Int) != 0) = false := by rw [he0]; rfl
          have HPR := Lib.hid (show Calls Tryz.prog 37 #[sv (expT M s)] w5 (PaPostG (expT M s) w5) from rlParseG_any (expT M s) w5 (by have := HT.out; omega))
          generalize expT M s = TX at *
          generalize expE M s = E0 at *
          clear he he0
          go_wp2_with fail
          refine HPR.out.mono ?_
          intro e w6 hpg
          by_cases hp0 : (parseR TX).1 = 0
          ·obtain ⟨x, hx1, rfl, hx2, hb6, hf1, hf2, hns, t0, ht0, ht0l⟩ := parsed_in (by have := HT.out; omega) hp0 hpg
           have HW6 := Lib.hid (HW5.out.below hb6 HR5.out.top)
           have HR6 := Lib.hid (HR5.out.below hb6)
           have hb7 := below_new (Below.refl w6.heap.size w6) (.cells #[rsT x, rsN x] 78)
           have HR7 := Lib.hid (HR6.out.below hb7)
           have HW7 := Lib.hid (HW6.out.below hb7 HR6.out.top)
           have HX7 := Lib.hid (hx2.below hb7)
           have HFR : Hid (∀ r ∈ rowsF f L (.slice A5 f.mac.length r5) v1 v2 v3, farS x r.v.ownBlock) := Lib.hid (fun r hr => fresh_far hf1 hf2 (fun g hg => ((HR5.out.own r hr).lt g hg).2))
           have HFB : Hid (farS x (some (b + 1))) := Lib.hid (fresh_far hf1 hf2 (fun g hg => by injection hg with hg; have := HR5.out.box.lt; omega))
           have HFb : Hid (farS x (some b)) := Lib.hid (fresh_far hf1 hf2 (fun g hg => by injection hg with hg; have := HR5.out.box.lt; omega))
           have HK9 := Lib.hid (Blk.new w6 #[rsT x, rsN x] 78)
           clear hb6 hb7 hx2 hf1 hf2
           have HB7 := Lib.hid (ButLo.toBelow HB1.out HW7.out (by omega) (by omega))
           have HAD := Lib.hid (fAdd_any HR7.out HLq.out HX7.out HFR.out HFB.out HCq.out.1 HCq.out.2.1 (by have := HCq.out.2.2; have := HN.out; omega) (by omega) ht0 (by omega) mx (HMX.out _ HB7.out) (Nat.lt_of_lt_of_le (by have := HG0.out; have := HBB.out; omega) HB7.out.size))
           have HPX := Lib.hid hx1
           have HP0 := Lib.hid hp0
           clear hx1 hp0 hns ht0 ht0l
           simp only [rsT, rsN] at HAD HK9 HR7 HW7 HX7 HB7 ⊢
           go_upto_region 23 with fail
           generalize w6.alloc (.cells #[.slice x.1.1 x.2.2.1.length x.1.2, .slice x.2.1.1 x.2.2.2.length x.2.1.2] 78) = w7 at *
           generalize w6.heap.size = k9 at *
           have y0 := HK9.out.cell (j := 0) rfl
           have y1 := HK9.out.cell (j := 1) rfl
           go_wp2_with fail
           refine HAD.out.mono ?_
           rintro e w8 ⟨f', L', u0, u1, u2, u3, rfl, hf', hL', hR', hB', hsub⟩
           have HR8 := Lib.hid hR'
           have HL8 := Lib.hid hL'
           have HW8 := Lib.hid (HW7.out.trans hB')
           have HF8 := Lib.hid hf'
           have HU8 := Lib.hid hsub
           clear hR' hL' hB' hf' hsub y0 y1
           by_cases ha : (addP f x.2.2).1 = 0
           ·have HNX : Hid (fileP l = parseFrom M (q + 1) f' (l.drop (q + 1))) := Lib.hid (by rw [HS2.out, if_neg (fun e => e HP0.out), if_neg (by rw [← HPX.out]; exact fun e => e ha), ← HPX.out, HF8.out])
            have HMC : Hid (f'.mac = M) := Lib.hid (by rw [HF8.out, addP_mac]; exact HMq.out)
            have HKP : Hid (f'.pho.length ≤ 20 ∧ f'.rul.length ≤ 100 ∧ f'.inf.length ≤ q + 1) := Lib.hid (by rw [HF8.out]; exact addP_keeps ha HCq.out.1 HCq.out.2.1 HCq.out.2.2)
            have HFX : Hid (∀ y ∈ L', farS y (some b)) := Lib.hid (fun y hy => by
             rcases HU8.out y hy with h | h
             ·exact HFq.out y h
             ·rw [h]; exact HFb.out)
            rw [ha]
            clear ha
            go_wp2_with fail
            go_roundw
            case rel => exact ⟨q + 1, f', L', u0, u1, u2, u3, by omega, by go_num, HR8, HL8, HW8, HMC, HKP, HNX, HFX⟩
            case measure => simp [intOf]; omega
           ·have HEX : Hid (fileP l = ((addP f x.2.2).1, q + 1, emptyF)) := Lib.hid (by rw [HS2.out, if_neg (fun e => e HP0.out), ← HPX.out, if_pos ha])
            have HB8 := Lib.hid (ButLo.toBelow HB1.out HW8.out (by omega) (by omega))
            have HK8 := Lib.hid (HKB.out.butLo HW8.out (by omega) (by omega))
            have p2 : ((((addP f x.2.2).1 : Nat) : Int) != 0) = true := by simp; omega
            generalize (addP f x.2.2).1 = E1 at *
            clear ha
            have c0 := HK8.out.cell (j := 0) rfl
            have c1 := HK8.out.cell (j := 1) rfl
            have c2 := HK8.out.cell (j := 2) rfl
            have c3 := HK8.out.cell (j := 3) rfl
            have f0 := HK8.out.free 0
            have f1 := HK8.out.free 1
            have f2 := HK8.out.free 2
            have f3 := HK8.out.free 3
            go_wp2_with fail
            have RZ := Lib.hid (HK8.out.put4P (.slice none 0 0) (.slice none 0 0) (.slice none 0 0) (.slice none 0 0))
            have BZ := Lib.hid (below_put4P HB8.out (Nat.le_refl _) (.slice none 0 0) (.slice none 0 0) (.slice none 0 0) (.slice none 0 0))
            show bodyPost _ _ _ _ _ (put4P w8 b (.slice none 0 0) (.slice none 0 0) (.slice none 0 0) (.slice none 0 0))
            generalize put4P w8 b (.slice none 0 0) (.slice none 0 0) (.slice none 0 0) (.slice none 0 0) = wz at *
            have g0 := RZ.out.cell (j := 0) rfl
            have g1 := RZ.out.cell (j := 1) rfl
            have g2 := RZ.out.cell (j := 2) rfl
            have g3 := RZ.out.cell (j := 3) rfl
            refine bodyPost_ret (v := .tuple #[.agg #[.slice none 0 0, .slice none 0 0, .slice none 0 0, .slice none 0 0], .int .i64 ((q : Int) + 1), .int .i64 (E1 : Int)]) (by simp [results, Tryz.results9, go_sem, g0, g1, g2, g3]) rfl ?_
            exact ⟨by rw [HBB.out]; exact BZ.out, [], _, _, _, _, by rw [HEX.out]; rfl, by rw [HEX.out]; exact FileAt.none _ _⟩
          ·obtain ⟨A6, c6, A7, c7, rfl, _, _, hb6, _⟩ := hpg
           have HEX : Hid (fileP l = ((parseR TX).1, q + 1, emptyF)) := Lib.hid (by rw [HS2.out, if_pos hp0])
           have HW6 := Lib.hid (HW5.out.below hb6 HR5.out.top)
           have hb7 := below_new (Below.refl w6.heap.size w6) (.cells #[.slice A6 (parseR TX).2.1.length c6, .slice A7 (parseR TX).2.2.length c7] 78)
           have HW7 := Lib.hid (HW6.out.below hb7 (Nat.le_trans HR5.out.top hb6.size))
           have HB7 := Lib.hid (ButLo.toBelow HB1.out HW7.out (by omega) (by omega))
           have HK7 := Lib.hid (HKB.out.butLo HW7.out (by omega) (by omega))
           have p2 : ((((parseR TX).1 : Nat) : Int) != 0) = true := by simp; omega
           have p3 : ((((parseR TX).1 : Nat) : Int) == 0) = false := by simp; omega
           clear hb6 hb7
           unfold rlV
           go_upto_region 23 with fail
           generalize w6.alloc (.cells #[.slice A6 (parseR TX).2.1.length c6, .slice A7 (parseR TX).2.2.length c7] 78) = w7 at *
           generalize (parseR TX).1 = E1 at *
           clear hp0
           have c0 := HK7.out.cell (j := 0) rfl
           have c1 := HK7.out.cell (j := 1) rfl
           have c2 := HK7.out.cell (j := 2) rfl
           have c3 := HK7.out.cell (j := 3) rfl
           have f0 := HK7.out.free 0
           have f1 := HK7.out.free 1
           have f2 := HK7.out.free 2
           have f3 := HK7.out.free 3
           go_wp2_with fail
           have RZ := Lib.hid (HK7.out.put4P (.slice none 0 0) (.slice none 0 0) (.slice none 0 0) (.slice none 0 0))
           have BZ := Lib.hid (below_put4P HB7.out (Nat.le_refl _) (.slice none 0 0) (.slice none 0 0) (.slice none 0 0) (.slice none 0 0))
           show bodyPost _ _ _ _ _ (put4P w7 b (.slice none 0 0) (.slice none 0 0) (.slice none 0 0) (.slice none 0 0))
           generalize put4P w7 b (.slice none 0 0) (.slice none 0 0) (.slice none 0 0) (.slice none 0 0) = wz at *
           have g0 := RZ.out.cell (j := 0) rfl
           have g1 := RZ.out.cell (j := 1) rfl
           have g2 := RZ.out.cell (j := 2) rfl
           have g3 := RZ.out.cell (j := 3) rfl
           refine bodyPost_ret (v := .tuple #[.agg #[.slice none 0 0, .slice none 0 0, .slice none 0 0, .slice none 0 0], .int .i64 ((q : Int) + 1), .int .i64 (E1 : Int)]) (by simp [results, Tryz.results9, go_sem, g0, g1, g2, g3]) rfl ?_
           exact ⟨by rw [HBB.out]; exact BZ.out, [], _, _, _, _, by rw [HEX.out]; rfl, by rw [HEX.out]; exact FileAt.none _ _⟩
      ·obtain rfl : q = j := by omega
       have HE3 : Hid (fileP l = (0, 0, f)) := Lib.hid (by rw [HEq.out, List.drop_of_length_le (by have := HN.out; omega), parseFrom])
       have HKq := Lib.hid (HKB.out.butLo HBq.out (by omega) (by omega))
       have c0 := HKq.out.cell (j := 0) rfl
       have c1 := HKq.out.cell (j := 1) rfl
       have c2 := HKq.out.cell (j := 2) rfl
       have c3 := HKq.out.cell (j := 3) rfl
       have f0 := HKq.out.free 0
       have f1 := HKq.out.free 1
       have f2 := HKq.out.free 2
       have f3 := HKq.out.free 3
       have d0 : wr.cell? ⟨b + 1, 0, none⟩ = some v0 := HRq.out.box.cell (j := 0) rfl
       have d1 : wr.cell? ⟨b + 1, 1, none⟩ = some v1 := HRq.out.box.cell (j := 1) rfl
       have d2 : wr.cell? ⟨b + 1, 2, none⟩ = some v2 := HRq.out.box.cell (j := 2) rfl
       have d3 : wr.cell? ⟨b + 1, 3, none⟩ = some v3 := HRq.out.box.cell (j := 3) rfl
       have RZ := Lib.hid (HKq.out.put4P v0 v1 v2 v3)
       have BZ := Lib.hid (below_put4P HBLq.out (Nat.le_refl _) v0 v1 v2 v3)
       have FZ := Lib.hid (FileAt.put (b := b) (b' := w.heap.size) HRq.out HLq.out (by omega) HFq.out (by have := HBB.out; omega) v0 v1 v2 v3)
       obtain ⟨A0, r0, hv0⟩ := slice_ofF (HRq.out.own ⟨71, 2, v0, f.mac.length, macV f.mac⟩ (by unfold rowsF; simp))
       obtain ⟨A1, r1, hv1⟩ := slice_ofF (HRq.out.own ⟨9, 1, v1, f.pho.length, f.pho.map sv⟩ (by unfold rowsF; simp))
       obtain ⟨A2, r2, hv2⟩ := slice_ofF (HRq.out.own ⟨85, 2, v2, f.inf.length, macV f.inf⟩ (by unfold rowsF; simp))
       obtain ⟨A3, r3, hv3⟩ := slice_ofF (HRq.out.own ⟨78, 2, v3, L.length, rsV L⟩ (by unfold rowsF; simp))
       dsimp only at hv0 hv1 hv2 hv3
       subst hv0 hv1 hv2 hv3
       go_wp2_with fail
       show bodyPost _ _ _ _ _ (put4P wr b (.slice A0 f.mac.length r0) (.slice A1 f.pho.length r1) (.slice A2 f.inf.length r2) (.slice A3 L.length r3))
       generalize put4P wr b (.slice A0 f.mac.length r0) (.slice A1 f.pho.length r1) (.slice A2 f.inf.length r2) (.slice A3 L.length r3) = wz at *
       have g0 := RZ.out.cell (j := 0) rfl
       have g1 := RZ.out.cell (j := 1) rfl
       have g2 := RZ.out.cell (j := 2) rfl
       have g3 := RZ.out.cell (j := 3) rfl
       refine bodyPost_ret (v := .tuple #[.agg #[.slice A0 f.mac.length r0, .slice A1 f.pho.length r1, .slice A2 f.inf.length r2, .slice A3 L.length r3], .int .i64 0, .int .i64 0]) (by simp [results, Tryz.results9, go_sem, g0, g1, g2, g3]) rfl ?_
       exact ⟨by rw [HBB.out]; exact BZ.out, L, _, _, _, _, by rw [HE3.out]; rfl, by rw [HE3.out]; exact FZ.out⟩
end Go.Proofs.YtoandhhkmkgmaaaGreatDoor
namespace Go.Proofs.YtoandhhkmkgmaaaGreatDoor
open Go.RowKit

def macLine (m : MacT) : List UInt8 := m.1 ++ [32, 61, 32] ++ m.2
def infLine (x : InfT) : List UInt8 := x.1 ++ x.2 ++ [32, 58]
def phoLines (p : List (List UInt8)) : List (List UInt8) := if p.length = 0 then [] else [phonyW ++ [32, 58, 32] ++ joinSp p]
def linesP (f : FileT) : List (List UInt8) := f.mac.map macLine ++ phoLines f.pho ++ f.inf.map infLine ++ f.rul.map rlText
theorem rl_text_join (r : RuleT) : joinSp (r.1 ++ [58] :: r.2) = rlText r := by
 by_cases h : 0 < r.1.length
 ·exact join_text h
 ·have e : r.1 = [] := List.length_eq_zero_iff.1 (by omega)
  unfold rlText
  rw [e]
  rfl
theorem joinSp_flat {p : List (List UInt8)} (h : ¬ p.length = 0) : [32] ++ joinSp p = p.flatMap fun s => 32 :: s := by
 cases p with
 | nil => exact absurd rfl h
 | cons x l => rfl
theorem joinSp_lens (p : List (List UInt8)) (h : ¬ p.length = 0) : (joinSp p).length + 1 = lens p p.length + p.length := by
 have h1 := congrArg List.length (joinSp_flat h)
 have h2 := tailSp_len p p.length
 unfold tailSp at h2
 rw [List.take_length] at h2
 rw [← h1] at h2
 simp at h2
 omega
structure SzF (f : FileT) : Prop where
 lin : ∀ s ∈ linesP f, s.length ≤ 1048639
 mac : f.mac.length ≤ 1048640
 inf : f.inf.length ≤ 1048640
 rul : f.rul.length ≤ 1048640
theorem SzF.macs {f : FileT} (h : SzF f) : ∀ m ∈ f.mac, m.1.length ≤ 1048640 ∧ m.2.length ≤ 1048640 := fun m hm => by
 have := h.lin (macLine m) (by unfold linesP; simp only [List.mem_append, List.mem_map]; exact .inl (.inl (.inl ⟨m, hm, rfl⟩)))
 unfold macLine at this
 simp at this
 omega
theorem SzF.infs {f : FileT} (h : SzF f) : ∀ m ∈ f.inf, m.1.length ≤ 1048640 ∧ m.2.length ≤ 1048640 := fun m hm => by
 have := h.lin (infLine m) (by unfold linesP; simp only [List.mem_append, List.mem_map]; exact .inl (.inr ⟨m, hm, rfl⟩))
 unfold infLine at this
 simp at this
 omega
theorem SzF.phos {f : FileT} (h : SzF f) : f.pho.length ≤ 1048641 ∧ lens f.pho f.pho.length ≤ 1048641 := by
 by_cases h0 : f.pho.length = 0
 ·rw [h0]; exact ⟨by omega, by simp [lens]⟩
 ·have := h.lin (phonyW ++ [32, 58, 32] ++ joinSp f.pho) (by unfold linesP phoLines; rw [if_neg h0]; simp)
  have h2 := joinSp_lens _ h0
  simp only [List.length_append] at this
  omega
theorem SzF.ruls {f : FileT} (h : SzF f) : ∀ r ∈ f.rul, (r.1 ++ [58] :: r.2).length ≤ 1048641 ∧ lens (r.1 ++ [58] :: r.2) (r.1 ++ [58] :: r.2).length ≤ 1048641 := fun r hr => by
 have := h.lin (rlText r) (by unfold linesP; simp only [List.mem_append, List.mem_map]; exact .inr ⟨r, hr, rfl⟩)
 rw [← rl_text_join] at this
 have h2 := joinSp_lens (r.1 ++ [58] :: r.2) (by simp)
 omega
structure FileRd (A0 A1 A2 A3 : Option Addr) (f : FileT) (L : List RSlot) (w : World) : Prop where
 mac : Rd w A0 (macV f.mac)
 pho : Rd w A1 (f.pho.map sv)
 inf : Rd w A2 (macV f.inf)
 rul : RsRd A3 L w
 eq : rulesOf L = f.rul
theorem RsRd.below {A : Option Addr} {L : List RSlot} {w w' : World} (h : RsRd A L w) (hb : Below w.heap.size w w') : RsRd A L w' := ⟨h.rd.below hb, fun x hx => (h.each x hx).below hb⟩
theorem FileRd.below {A0 A1 A2 A3 : Option Addr} {f : FileT} {L : List RSlot} {w w' : World} (h : FileRd A0 A1 A2 A3 f L w) (hb : Below w.heap.size w w') : FileRd A0 A1 A2 A3 f L w' :=
 ⟨h.mac.below hb, h.pho.below hb, h.inf.below hb, h.rul.below hb, h.eq⟩
theorem FileRd.len {A0 A1 A2 A3 : Option Addr} {f : FileT} {L : List RSlot} {w : World} (h : FileRd A0 A1 A2 A3 f L w) : f.rul.length = L.length := by rw [← h.eq]; unfold rulesOf; simp
theorem FileAt.rd {lo : Nat} {f : FileT} {L : List RSlot} {v0 v1 v2 v3 : Value} {w : World} (h : FileAt lo f L v0 v1 v2 v3 w) :
 ∃ A0 c0 A1 c1 A2 c2 A3 c3, v0 = .slice A0 f.mac.length c0 ∧ v1 = .slice A1 f.pho.length c1 ∧ v2 = .slice A2 f.inf.length c2 ∧ v3 = .slice A3 L.length c3 ∧ FileRd A0 A1 A2 A3 f L w ∧ f.pho.length ≤ c1 := by
 have o0 := h.own ⟨71, 2, v0, f.mac.length, macV f.mac⟩ (by unfold rowsF; simp)
 have o1 := h.own ⟨9, 1, v1, f.pho.length, f.pho.map sv⟩ (by unfold rowsF; simp)
 have o2 := h.own ⟨85, 2, v2, f.inf.length, macV f.inf⟩ (by unfold rowsF; simp)
 have o3 := h.own ⟨78, 2, v3, L.length, rsV L⟩ (by unfold rowsF; simp)
 obtain ⟨A0, c0, e0⟩ := slice_ofF o0
 obtain ⟨A1, c1, e1⟩ := slice_ofF o1
 obtain ⟨A2, c2, e2⟩ := slice_ofF o2
 obtain ⟨A3, c3, e3⟩ := slice_ofF o3
 dsimp only at e0 e1 e2 e3 o0 o1 o2 o3
 subst e0 e1 e2 e3
 exact ⟨A0, c0, A1, c1, A2, c2, A3, c3, rfl, rfl, rfl, rfl, ⟨Rd.own2 o0, Rd.own2 o1, Rd.own2 o2, ⟨Rd.own2 o3, fun x hx => ⟨(h.each x hx).t, (h.each x hx).n, (h.each x hx).tb, (h.each x hx).nb⟩⟩, h.rul⟩, own_room o1⟩

set_option maxRecDepth 100000 in
set_option maxHeartbeats 1000000 in
theorem joinOne_any {A : Option Addr} {c : Nat} (x : List UInt8) (w : World) (hr : Rd w A ([x].map sv)) (_hc : 1 ≤ c) :
 Calls Tryz.prog 95 #[.slice A 1 c, .string ⟨#[32]⟩] w fun e w' => e = .returned (.string ⟨x.toArray⟩) ∧ Below w.heap.size w w' := by
 obtain ⟨b, off, rfl, hc0⟩ := hr.scell (k := 0) rfl
 rw [Nat.add_zero] at hc0
 generalize (⟨x.toArray⟩ : ByteArray) = bx at *
 go_enter Tryz.func95, Tryz.ntmps95
 go_wp2_with fail
 go_ret
 exact ⟨rfl, Below.refl _ _⟩
theorem joinSpN_any {A : Option Addr} {n c : Nat} (l : List (List UInt8)) (w : World) (hr : Rd w A (l.map sv)) (hn : l.length = n) (h1 : 1 ≤ n) (hb : n ≤ 2097152) (hnc : n ≤ c) (hs : lens l n ≤ 1099511627776) :
 Calls Tryz.prog 95 #[.slice A n c, .string ⟨#[32]⟩] w fun e w' => e = .returned (.string ⟨(joinSp l).toArray⟩) ∧ Below w.heap.size w w' := by
 match l, hr, hn, hs with
 | [], _, hn, _ => simp at hn; omega
 | [x], hr, hn, _ =>
   obtain rfl : n = 1 := by simpa using hn.symm
   have : joinSp [x] = x := by unfold joinSp; simp
   rw [this]
   exact joinOne_any x w hr hnc
 | x :: y :: l, hr, hn, hs => exact joinSp_any x (y :: l) w hr (by rw [← hn]; rfl) (by rw [← hn]; simp) hb hnc hs
end Go.Proofs.YtoandhhkmkgmaaaGreatDoor
namespace Go.Proofs.YtoandhhkmkgmaaaGreatDoor
open Go.RowKit

structure OutS (w : World) (XS : List (List UInt8)) (A : Option Addr) (n c : Nat) (wr : World) : Prop where
 own : wr.ownsRow w.heap.size 9 1 (.slice A n c) n (XS.map sv)
 len : XS.length = n
 bel : Below w.heap.size w wr
theorem OutS.below {w : World} {XS : List (List UInt8)} {A : Option Addr} {n c : Nat} {wr w' : World} (h : OutS w XS A n c wr) (hb : Below wr.heap.size wr w') : OutS w XS A n c w' :=
 ⟨own_belowK h.own hb, h.len, below_then h.bel hb⟩
theorem OutS.push {w : World} {XS : List (List UInt8)} {A A' : Option Addr} {n c c' : Nat} {wr w' : World} {x : List UInt8} {v : Value} (h : OutS w XS A n c wr) (hv : sv x = v) (ho : w'.ownsRow w.heap.size 9 1 (.slice A' (n + 1) c') (n + 1) (XS.map sv ++ [v])) (hb : Below w.heap.size wr w') : OutS w (XS ++ [x]) A' (n + 1) c' w' := by
 subst hv
 exact ⟨by rw [List.map_append]; exact ho, by simp [h.len], h.bel.trans hb⟩
theorem OutS.base {w w0 : World} {XS : List (List UInt8)} {A : Option Addr} {n c : Nat} {wr : World} (h : OutS w0 XS A n c wr) (hb : Below w.heap.size w w0) : OutS w XS A n c wr :=
 ⟨own_baseF h.own hb.size, h.len, below_then hb h.bel⟩
theorem OutS.start (w : World) : OutS w [] none 0 0 w := ⟨World.ownsRow_nil _ _ _ _, rfl, Below.refl _ _⟩
theorem lines_snoc {f : List UInt8 × List UInt8 → List UInt8} {X : List (List UInt8)} {l : List (List UInt8 × List UInt8)} {k : Nat} {m : List UInt8 × List UInt8} (h : l[k]? = some m) : X ++ (l.take (k + 1)).map f = (X ++ (l.take k).map f) ++ [f m] := by
 rw [List.take_add_one, h, List.map_append, List.append_assoc]; rfl
theorem rlines_snoc {X : List (List UInt8)} {L : List RSlot} {k : Nat} {m : RSlot} (h : L[k]? = some m) : X ++ (rulesOf (L.take (k + 1))).map rlText = (X ++ (rulesOf (L.take k)).map rlText) ++ [rlText m.2.2] := by
 unfold rulesOf
 rw [List.take_add_one, h, List.map_append, List.map_append, List.append_assoc]; rfl
theorem mac_sv (m : MacT) : sv (macLine m) = .string (⟨m.1.toArray⟩ ++ ⟨#[32, 61, 32]⟩ ++ ⟨m.2.toArray⟩) := by
 unfold macLine sv
 rw [← cat_bytesL (m.1 ++ [32, 61, 32]) m.2, ← cat_bytesL m.1 [32, 61, 32]]
theorem inf_sv (m : InfT) : sv (infLine m) = .string (⟨m.1.toArray⟩ ++ ⟨m.2.toArray⟩ ++ ⟨#[32, 58]⟩) := by
 unfold infLine sv
 rw [← cat_bytesL (m.1 ++ m.2) [32, 58], ← cat_bytesL m.1 m.2]
theorem pho_sv (x : List UInt8) : sv (phonyW ++ [32, 58, 32] ++ x) = .string (⟨#[46, 80, 72, 79, 78, 89, 32, 58, 32]⟩ ++ ⟨x.toArray⟩) := by
 unfold sv
 rw [← cat_bytesL (phonyW ++ [32, 58, 32]) x]
 rfl
theorem rulesOf_atL {L : List RSlot} {k : Nat} {x : RSlot} (h : L[k]? = some x) : (rulesOf L)[k]? = some x.2.2 := by unfold rulesOf; rw [List.getElem?_map, h]; rfl
theorem ruleCat_any {A1 A2 : Option Addr} {n1 c1 n2 c2 : Nat} (r : RuleT) (w1 : World) (h1 : Rd w1 A1 (r.1.map sv)) (h2 : Rd w1 A2 (r.2.map sv)) (l1 : r.1.length = n1) (l2 : r.2.length = n2) (hz : n1 + n2 + 1 ≤ 1048641) :
 Calls Tryz.prog 70 #[.slice (some ⟨w1.heap.size + 1, 0, none⟩) 3 3] ((w1.alloc (.cells #[.string ⟨#[58]⟩] 9)).alloc (.cells #[.slice A1 n1 c1, .slice (some ⟨w1.heap.size, 0, none⟩) 1 1, .slice A2 n2 c2] 22)) fun e w' =>
  ∃ A c, e = .returned (.slice A (n1 + n2 + 1) c) ∧ Rd w' A ((r.1 ++ [58] :: r.2).map sv) ∧ n1 + n2 + 1 ≤ c ∧ Below w1.heap.size w1 w' := by
 have hba : Below w1.heap.size w1 (w1.alloc (.cells #[.string ⟨#[58]⟩] 9)) := below_new (Below.refl _ _) _
 have hbb : Below (w1.alloc (.cells #[.string ⟨#[58]⟩] 9)).heap.size (w1.alloc (.cells #[.string ⟨#[58]⟩] 9)) ((w1.alloc (.cells #[.string ⟨#[58]⟩] 9)).alloc (.cells #[.slice A1 n1 c1, .slice (some ⟨w1.heap.size, 0, none⟩) 1 1, .slice A2 n2 c2] 22)) := below_new (Below.refl _ _) _
 have hBB := below_then hba hbb
 have HCL : Rd ((w1.alloc (.cells #[.string ⟨#[58]⟩] 9)).alloc (.cells #[.slice A1 n1 c1, .slice (some ⟨w1.heap.size, 0, none⟩) 1 1, .slice A2 n2 c2] 22)) (some ⟨w1.heap.size, 0, none⟩) ([[58]].map sv) :=
  (show Rd (w1.alloc (.cells #[.string ⟨#[58]⟩] 9)) (some ⟨w1.heap.size, 0, none⟩) ([[58]].map sv) from rd_lit w1 _ #[.string ⟨#[58]⟩] 9 _ rfl rfl).below hbb
 have HCAT : catP [(A1, c1, r.1), (some ⟨w1.heap.size, 0, none⟩, 1, [[58]]), (A2, c2, r.2)] = r.1 ++ [58] :: r.2 := by simp [catP]
 have HLEN : (r.1 ++ [58] :: r.2).length = n1 + n2 + 1 := by rw [List.length_append, List.length_cons, l1, l2]; omega
 have HC := concatN_any (n := 3) (c := 3) (b := w1.heap.size + 1) [(A1, c1, r.1), (some ⟨w1.heap.size, 0, none⟩, 1, [[58]]), (A2, c2, r.2)] ((w1.alloc (.cells #[.string ⟨#[58]⟩] 9)).alloc (.cells #[.slice A1 n1 c1, .slice (some ⟨w1.heap.size, 0, none⟩) 1 1, .slice A2 n2 c2] 22)) (by simp) rfl (by decide)
  (fun j x hx => by
    have hj := (List.getElem?_eq_some_iff.1 hx).1
    simp only [List.length_cons, List.length_nil] at hj
    rcases (by omega : j = 0 ∨ j = 1 ∨ j = 2) with rfl | rfl | rfl
    ·injection hx with hx; subst hx
     rw [World.cell?_alloc_at _ _ _ _ (by simp), partV, l1]; rfl
    ·injection hx with hx; subst hx
     rw [World.cell?_alloc_at _ _ _ _ (by simp), partV]; rfl
    ·injection hx with hx; subst hx
     rw [World.cell?_alloc_at _ _ _ _ (by simp), partV, l2]; rfl)
  (fun x hx => by
    rcases List.mem_cons.1 hx with rfl | hx
    ·exact h1.below hBB
    ·rcases List.mem_cons.1 hx with rfl | hx
     ·exact HCL
     ·rw [List.mem_singleton.1 hx]; exact h2.below hBB)
  (by rw [HCAT, HLEN]; omega)
 rw [HCAT, HLEN] at HC
 refine HC.mono ?_
 rintro e w3 ⟨A, c, rfl, hown, hb3⟩
 exact ⟨A, c, rfl, Rd.of_own hown, (own_more hown (by omega)).choose_spec.2, below_then hBB hb3⟩
set_option maxRecDepth 100000 in
set_option maxHeartbeats 8000000 in
theorem fLines_any {A0 A1 A2 A3 : Option Addr} {n0 n1 n2 n3 c0 c1 c2 c3 : Nat} (f : FileT) (L : List RSlot) (w : World) (h : FileRd A0 A1 A2 A3 f L w) (hz : SzF f) (e0 : f.mac.length = n0) (e1 : f.pho.length = n1) (e2 : f.inf.length = n2) (e3 : L.length = n3) (hp : n1 ≤ c1) :
 Calls Tryz.prog 47 #[.agg #[.slice A0 n0 c0, .slice A1 n1 c1, .slice A2 n2 c2, .slice A3 n3 c3]] w fun e w' => ∃ A n c, e = .returned (.slice A n c) ∧ OutS w (linesP f) A n c w' := by
 have HF := Lib.hid h
 have HZ := Lib.hid hz
 have E0 := Lib.hid e0
 have E1 := Lib.hid e1
 have E2 := Lib.hid e2
 have E3 := Lib.hid e3
 have HB0 := Lib.hid (below_new (Below.refl w.heap.size w) (.cells #[.slice A0 n0 c0, .slice A1 n1 c1, .slice A2 n2 c2, .slice A3 n3 c3] 27))
 have HK0 := Lib.hid (Blk.new w #[.slice A0 n0 c0, .slice A1 n1 c1, .slice A2 n2 c2, .slice A3 n3 c3] 27)
 have z0 := hz.mac
 have z2 := hz.inf
 have z3 := hz.rul
 have z1 := hz.phos.1
 rw [h.len] at z3
 rw [e0] at z0
 rw [e1] at z1
 rw [e2] at z2
 rw [e3] at z3
 have HJ := Lib.hid (fun W (hW : Below w.heap.size w W) (h1 : 1 ≤ n1) => joinSpN_any (c := c1) f.pho W (h.pho.below hW) e1 h1 (by omega) hp (by rw [← e1]; have := hz.phos.2; omega))
 have HJS : Hid (1 ≤ n1 → (joinSp f.pho).length ≤ 4194304) := Lib.hid (fun h1 => by have := joinSp_lens f.pho (by omega); have := hz.phos; omega)
 have HPS : Hid (1 ≤ n1 → phoLines f.pho = [phonyW ++ [32, 58, 32] ++ joinSp f.pho]) := Lib.hid (fun h1 => by unfold phoLines; rw [if_neg (by omega)])
 have HPN : Hid (n1 = 0 → phoLines f.pho = []) := Lib.hid (fun h1 => by unfold phoLines; rw [if_pos (by omega)])
 clear h hz e0 e1 e2 e3
 go_enter Tryz.func47, Tryz.ntmps47
 go_upto_region 1 with fail
 generalize w.alloc (.cells #[.slice A0 n0 c0, .slice A1 n1 c1, .slice A2 n2 c2, .slice A3 n3 c3] 27) = w0 at *
 generalize hb : w.heap.size = b at *
 have HBB := Lib.hid hb
 clear hb
 have HW0 : Hid (Below w.heap.size w w0) := Lib.hid (by rw [HBB.out]; exact HB0.out)
 have d0 := HK0.out.cell (j := 0) rfl
 go_wp2_with fail
 go_loopw [3, 13] (fun v i wr => ∃ (k : Nat) (A : Option Addr) (c : Nat), k ≤ n0 ∧ i = .int .i64 (k : Int) ∧ v = .slice A k c ∧ Hid (OutS w0 ([] ++ (f.mac.take k).map macLine) A k c wr)) (fun _ i _ => n0 - (intOf i).toNat)
 case atStart => exact ⟨0, none, 0, by omega, rfl, rfl, Lib.hid (OutS.start w0)⟩
 case round =>
  obtain ⟨k, A, c, hk, rfl, rfl, HO⟩ := hrel
  by_cases hlt : k < n0
  ·obtain ⟨m, hx⟩ : ∃ m, f.mac[k]? = some m := ⟨_, List.getElem?_eq_getElem (by rw [E0.out]; exact hlt)⟩
   obtain ⟨bA, off, rfl, m0, m1⟩ := (HF.out.mac.below (below_then HW0.out HO.out.bel)).macs hx
   have HSN := Lib.hid (lines_snoc (f := macLine) (X := []) hx)
   have hms := HZ.out.macs m (List.mem_of_getElem? hx)
   have HLN := Lib.hid (mac_sv m)
   have hl1 : (⟨m.1.toArray⟩ : ByteArray).size = m.1.length := rfl
   have hl2 : (⟨m.2.toArray⟩ : ByteArray).size = m.2.length := rfl
   unfold sv at m0 m1
   generalize (⟨m.1.toArray⟩ : ByteArray) = bn at *
   generalize (⟨m.2.toArray⟩ : ByteArray) = bv at *
   obtain ⟨bl, hbl⟩ : ∃ bl, bn ++ ⟨#[32, 61, 32]⟩ ++ bv = bl := ⟨_, rfl⟩
   rw [hbl] at HLN
   have hs1 : ¬ 9223372036854775807 < bn.size + 3 := by omega
   have hs2 : ¬ 9223372036854775807 < bn.size + 3 + bv.size := by omega
   have hk1 : (k : Int) < (n0 : Int) := by omega
   have hb3 := below_new (Below.refl wr.heap.size wr) (.cells #[.string bn, .string bv] 71)
   have HO3 := Lib.hid (HO.out.below hb3)
   have HK8 := Lib.hid (Blk.new wr #[.string bn, .string bv] 71)
   clear hx hms hl1 hl2 hb3
   go_upto_region 5 with fail
   generalize wr.alloc (.cells #[.string bn, .string bv] 71) = w3 at *
   generalize wr.heap.size = k8 at *
   have y0 := HK8.out.cell (j := 0) rfl
   have y1 := HK8.out.cell (j := 1) rfl
   go_wp2_with (at_builtin; refine wpList_push elStr w3 _ _ w0.heap.size A k c (([] ++ (f.mac.take k).map macLine).map sv) (.string bl) HO3.out.own rfl HO3.out.bel.size (by omega) (by omega) rfl rfl rfl rfl ?_; intro A' c' w4 hown4 hb4)
   have HO4 := Lib.hid (HO3.out.push HLN.out hown4 hb4)
   clear hown4 hb4
   go_roundw
   case rel => exact ⟨k + 1, A', c', by omega, by go_num, rfl, by rw [HSN.out]; exact HO4⟩
   case measure => simp [intOf]; omega
  ·obtain rfl : k = n0 := by omega
   have HT0 : Hid ([] ++ (f.mac.take k).map macLine = f.mac.map macLine) := Lib.hid (by rw [List.take_of_length_le (by rw [E0.out]; exact Nat.le_refl _)]; rfl)
   rw [HT0.out] at HO
   clear d0
   have HK1 := Lib.hid (HK0.out.below HO.out.bel HK0.out.lt)
   have d1 := HK1.out.cell (j := 1) rfl
   have HWR : Hid (Below b w wr) := Lib.hid (by have h := below_then HW0.out HO.out.bel; rw [HBB.out] at h; exact h)
   by_cases h1 : 1 ≤ n1
   case' neg =>
    obtain rfl : n1 = 0 := by omega
    have HPN1 := Lib.hid (HPN.out (by omega))
    have HOq : Hid (OutS w0 (f.mac.map macLine ++ phoLines f.pho) A k c wr) := Lib.hid (by rw [HPN1.out, List.append_nil]; exact HO.out)
    go_upto_region 9 with fail
    clear HWR d1 HK1 HO h1
    have hkq : k ≤ 1048641 := by omega
    generalize wr = w4 at *
    generalize A = A' at *
    generalize c = c' at *
    obtain ⟨kq, rfl⟩ : ∃ kq, kq = k := ⟨_, rfl⟩
   case' pos =>
    have q1 : decide ((n1 : Int) > 0) = true := by simp; omega
    have q2 : (0 : Int) < (n1 : Int) := by omega
    have HJ1 := Lib.hid (HJ.out wr HWR.out h1)
    have HPS1 := Lib.hid (HPS.out h1)
    have HLN := Lib.hid (pho_sv (joinSp f.pho))
    have hl1 : (⟨(joinSp f.pho).toArray⟩ : ByteArray).size = (joinSp f.pho).length := rfl
    have hl2 := HJS.out h1
    generalize (⟨(joinSp f.pho).toArray⟩ : ByteArray) = bj at *
    have hs1 : ¬ 9223372036854775807 < 9 + bj.size := by omega
    obtain ⟨bl, hbl⟩ : ∃ bl, (⟨#[46, 80, 72, 79, 78, 89, 32, 58, 32]⟩ : ByteArray) ++ bj = bl := ⟨_, rfl⟩
    rw [hbl] at HLN
    clear hl1 hl2
    go_wp2_with fail
    refine HJ1.out.mono ?_
    rintro e w3 ⟨rfl, hb3⟩
    have HO3 := Lib.hid (HO.out.below hb3)
    clear hb3
    go_upto_region 9 with (at_builtin; refine wpList_push elStr w3 _ _ w0.heap.size A k c ((f.mac.map macLine).map sv) (.string bl) HO3.out.own rfl HO3.out.bel.size (by omega) (by omega) rfl rfl rfl rfl ?_; intro A' c' w4 hown4 hb4; have HOq : Hid (OutS w0 (f.mac.map macLine ++ phoLines f.pho) A' (k + 1) c' w4) := Lib.hid (by rw [HPS1.out]; exact HO3.out.push HLN.out hown4 hb4))
    clear hown4 hb4 q1 q2 hs1 hbl d1 HO HO3 HK1 HWR HJ1 HLN h1
    have hkq : k + 1 ≤ 1048641 := by omega
    obtain ⟨kq, hkk⟩ : ∃ kq, k + 1 = kq := ⟨_, rfl⟩
    rw [hkk] at HOq hkq ⊢
    have HKK := Lib.hid hkk
    clear hkk
   all_goals
    have HK1 := Lib.hid (HK0.out.below HOq.out.bel HK0.out.lt)
    have d2 := HK1.out.cell (j := 2) rfl
    go_wp2_with fail
    generalize hX1 : f.mac.map macLine ++ phoLines f.pho = X1 at *
    have HX1 := Lib.hid hX1
    clear hX1
    go_loopw [3, 41] (fun v i wr => ∃ (q : Nat) (A : Option Addr) (c : Nat), q ≤ n2 ∧ i = .int .i64 (q : Int) ∧ v = .slice A (kq + q) c ∧ Hid (OutS w0 (X1 ++ (f.inf.take q).map infLine) A (kq + q) c wr)) (fun _ i _ => n2 - (intOf i).toNat)
    case atStart => exact ⟨0, A', c', by omega, rfl, rfl, Lib.hid (by rw [List.take_zero, List.map_nil, List.append_nil]; exact HOq.out)⟩
    case round =>
     obtain ⟨q, A, c, hq, rfl, rfl, HO⟩ := hrel
     by_cases hlt : q < n2
     ·obtain ⟨m, hx⟩ : ∃ m, f.inf[q]? = some m := ⟨_, List.getElem?_eq_getElem (by rw [E2.out]; exact hlt)⟩
      obtain ⟨bA, off, rfl, m0, m1⟩ := (HF.out.inf.below (below_then HW0.out HO.out.bel)).macs hx
      have HSN := Lib.hid (lines_snoc (f := infLine) (X := X1) hx)
      have hms := HZ.out.infs m (List.mem_of_getElem? hx)
      have HLN := Lib.hid (inf_sv m)
      have hl1 : (⟨m.1.toArray⟩ : ByteArray).size = m.1.length := rfl
      have hl2 : (⟨m.2.toArray⟩ : ByteArray).size = m.2.length := rfl
      unfold sv at m0 m1
      generalize (⟨m.1.toArray⟩ : ByteArray) = bn at *
      generalize (⟨m.2.toArray⟩ : ByteArray) = bv at *
      obtain ⟨bl, hbl⟩ : ∃ bl, bn ++ bv ++ ⟨#[32, 58]⟩ = bl := ⟨_, rfl⟩
      rw [hbl] at HLN
      have hs1 : ¬ 9223372036854775807 < bn.size + bv.size := by omega
      have hs2 : ¬ 9223372036854775807 < bn.size + bv.size + 2 := by omega
      have hk1 : (q : Int) < (n2 : Int) := by omega
      have hb3 := below_new (Below.refl wr.heap.size wr) (.cells #[.string bn, .string bv] 85)
      have HO3 := Lib.hid (HO.out.below hb3)
      have HK8 := Lib.hid (Blk.new wr #[.string bn, .string bv] 85)
      clear hx hms hl1 hl2 hb3
      go_upto_region 12 with fail
      generalize wr.alloc (.cells #[.string bn, .string bv] 85) = w3 at *
      generalize wr.heap.size = k8 at *
      have y0 := HK8.out.cell (j := 0) rfl
      have y1 := HK8.out.cell (j := 1) rfl
      go_wp2_with (at_builtin; refine wpList_push elStr w3 _ _ w0.heap.size A (kq + q) c ((X1 ++ (f.inf.take q).map infLine).map sv) (.string bl) HO3.out.own rfl HO3.out.bel.size (by omega) (by omega) rfl rfl rfl rfl ?_; intro A' c' w5 hown4 hb4)
      have HO4 := Lib.hid (HO3.out.push HLN.out hown4 hb4)
      clear hown4 hb4
      go_roundw
      case rel => exact ⟨q + 1, A', c', by omega, by go_num, rfl, by rw [HSN.out]; exact HO4⟩
      case measure => simp [intOf]; omega
     ·obtain rfl : q = n2 := by omega
      have HT0 : Hid (X1 ++ (f.inf.take q).map infLine = X1 ++ f.inf.map infLine) := Lib.hid (by rw [List.take_of_length_le (by rw [E2.out]; exact Nat.le_refl _)])
      rw [HT0.out] at HO
      clear d2 HK1
      have HK1 := Lib.hid (HK0.out.below HO.out.bel HK0.out.lt)
      have d3 := HK1.out.cell (j := 3) rfl
      obtain ⟨m2, hm2⟩ : ∃ m2, kq + q = m2 := ⟨_, rfl⟩
      have hmq : m2 ≤ 2097409 := by omega
      rw [hm2] at HO ⊢
      clear hm2 HOq hlt
      go_wp2_with fail
      generalize hX2 : X1 ++ f.inf.map infLine = X2 at *
      have HX2 := Lib.hid hX2
      clear hX2
      go_loopw [3, 58] (fun v i wr => ∃ (p : Nat) (A : Option Addr) (c : Nat), p ≤ n3 ∧ i = .int .i64 (p : Int) ∧ v = .slice A (m2 + p) c ∧ Hid (OutS w0 (X2 ++ (rulesOf (L.take p)).map rlText) A (m2 + p) c wr)) (fun _ i _ => n3 - (intOf i).toNat)
      case atStart => exact ⟨0, A, c, by omega, rfl, rfl, Lib.hid (by rw [List.take_zero]; unfold rulesOf; rw [List.map_nil, List.map_nil, List.append_nil]; exact HO.out)⟩
      case round =>
       obtain ⟨p, A, c, hpn, rfl, rfl, HOp⟩ := hrel
       by_cases hlt : p < n3
       ·obtain ⟨x, hx⟩ : ∃ x, L[p]? = some x := ⟨_, List.getElem?_eq_getElem (by rw [E3.out]; exact hlt)⟩
        have HSN := Lib.hid (rlines_snoc (X := X2) hx)
        obtain ⟨g1, g2⟩ := HZ.out.ruls x.2.2 (by rw [← HF.out.eq]; exact List.mem_of_getElem? (rulesOf_atL hx))
        have HXR := Lib.hid ((HF.out.rul.each x (List.mem_of_getElem? hx)).below (below_then HW0.out HOp.out.bel))
        obtain ⟨bA, off, rfl, a0, a1⟩ := (HF.out.rul.rd.below (below_then HW0.out HOp.out.bel)).two hx
        have hcap : 2 * p = p * 2 := by omega
        rw [hcap] at a0 a1
        obtain ⟨⟨X, xc⟩, ⟨Y, yc⟩, r⟩ := x
        simp only [rsT, rsN] at a0 a1 HXR HSN g1 g2
        have HLEN : Hid ((r.1 ++ [58] :: r.2).length = r.1.length + r.2.length + 1) := Lib.hid (by rw [List.length_append, List.length_cons]; omega)
        rw [HLEN.out] at g1 g2
        have HTX := Lib.hid (rl_text_join r)
        have HR1 := Lib.hid HXR.out.t
        have HR2 := Lib.hid HXR.out.n
        have HL1 : Hid (r.1.length = r.1.length) := Lib.hid rfl
        have HL2 : Hid (r.2.length = r.2.length) := Lib.hid rfl
        simp only [] at HR1 HR2
        have HG2 := Lib.hid g2
        generalize hr1 : r.1.length = u1 at *
        generalize hr2 : r.2.length = u2 at *
        have HU1 := Lib.hid hr1
        have HU2 := Lib.hid hr2
        have hk1 : (p : Int) < (n3 : Int) := by omega
        have hb3 := below_new (Below.refl wr.heap.size wr) (.cells #[.slice X u1 xc, .slice Y u2 yc] 78)
        have HO3 := Lib.hid (HOp.out.below hb3)
        have HR3 := Lib.hid (HR1.out.below hb3)
        have HR4 := Lib.hid (HR2.out.below hb3)
        have HK8 := Lib.hid (Blk.new wr #[.slice X u1 xc, .slice Y u2 yc] 78)
        clear hx hcap hb3 hr1 hr2 g2 HXR HR1 HR2 HL1 HL2
        go_upto_region 17 with fail
        generalize wr.alloc (.cells #[.slice X u1 xc, .slice Y u2 yc] 78) = w3 at *
        generalize wr.heap.size = k8 at *
        have HC := Lib.hid (ruleCat_any (c1 := xc) (c2 := yc) r w3 HR3.out HR4.out HU1.out HU2.out (by omega))
        have y0 := HK8.out.cell (j := 0) rfl
        have hb5 := below_new (Below.refl w3.heap.size w3) (.cells #[.string ⟨#[58]⟩] 9)
        have y1 := (HK8.out.below hb5 HK8.out.lt).cell (j := 1) rfl
        clear hb5
        go_wp2_with fail
        refine HC.out.mono ?_
        rintro e w5 ⟨A5, c5, rfl, hrd, hnc, hb5⟩
        have HO5 := Lib.hid (HO3.out.below hb5)
        have HJ5 := Lib.hid (joinSpN_any (c := c5) (r.1 ++ [58] :: r.2) w5 hrd HLEN.out (by omega) (by omega) hnc (by have := HG2.out; omega))
        rw [HTX.out] at HJ5
        clear hrd hnc hb5
        obtain ⟨bt, hbt⟩ : ∃ bt, (⟨(rlText r).toArray⟩ : ByteArray) = bt := ⟨_, rfl⟩
        have HLN : Hid (sv (rlText r) = .string bt) := Lib.hid (by rw [← hbt]; rfl)
        rw [hbt] at HJ5
        clear hbt
        go_wp2_with fail
        refine HJ5.out.mono ?_
        rintro e w6 ⟨rfl, hb6⟩
        have HO6 := Lib.hid (HO5.out.below hb6)
        clear hb6
        go_wp2_with (at_builtin; refine wpList_push elStr w6 _ _ w0.heap.size A (m2 + p) c ((X2 ++ (rulesOf (L.take p)).map rlText).map sv) (.string bt) HO6.out.own rfl HO6.out.bel.size (by omega) (by omega) rfl rfl rfl rfl ?_; intro A' c' w7 hown4 hb4)
        have HO7 := Lib.hid (HO6.out.push HLN.out hown4 hb4)
        clear hown4 hb4
        go_roundw
        case rel => exact ⟨p + 1, A', c', by omega, by go_num, rfl, by rw [HSN.out]; exact HO7⟩
        case measure => simp [intOf]; omega
       ·obtain rfl : p = n3 := by omega
        have HT3 : Hid (X2 ++ (rulesOf (L.take p)).map rlText = linesP f) := Lib.hid (by
         rw [List.take_of_length_le (by rw [E3.out]; exact Nat.le_refl _), HF.out.eq, ← HX2.out, ← HX1.out]
         rfl)
        rw [HT3.out] at HOp
        go_wp2_with fail
        go_ret
        exact ⟨A, _, c, rfl, HOp.out.base HW0.out⟩
end Go.Proofs.YtoandhhkmkgmaaaGreatDoor
namespace Go.Proofs.YtoandhhkmkgmaaaGreatDoor
open Go.RowKit

def eqL {α : Type} [DecidableEq α] (a b : List α) : Bool := decide (a = b)
theorem eqL_len {α : Type} [DecidableEq α] {a b : List α} (h : a.length ≠ b.length) : eqL a b = false := decide_eq_false (fun e => h (by rw [e]))
theorem eqL_at {α : Type} [DecidableEq α] {a b : List α} {k : Nat} {x y : α} (h1 : a[k]? = some x) (h2 : b[k]? = some y) (h : x ≠ y) : eqL a b = false := decide_eq_false (fun e => h (by rw [e, h2] at h1; injection h1 with h1; exact h1.symm))
theorem eqL_take {α : Type} [DecidableEq α] {a b : List α} {k : Nat} (ha : a.length ≤ k) (hb : b.length ≤ k) (h : a.take k = b.take k) : eqL a b = true := decide_eq_true (by rwa [List.take_of_length_le ha, List.take_of_length_le hb] at h)
theorem take_step {α : Type} {a b : List α} {k : Nat} {x y : α} (h1 : a[k]? = some x) (h2 : b[k]? = some y) (h : x = y) (ht : a.take k = b.take k) : a.take (k + 1) = b.take (k + 1) := by
 rw [List.take_add_one, List.take_add_one, h1, h2, ht, h]
set_option maxRecDepth 100000 in
set_option maxHeartbeats 1000000 in
theorem slEqS_anyD {A1 A2 : Option Addr} {n1 n2 c1 c2 : Nat} (l1 l2 : List (List UInt8)) (w : World) (h1 : Rd w A1 (l1.map sv)) (h2 : Rd w A2 (l2.map sv)) (hn1 : l1.length = n1) (hn2 : l2.length = n2) (hb1 : n1 ≤ 9223372036854775807) (hb2 : n2 ≤ 9223372036854775807) :
 Calls Tryz.prog 15 #[.slice A1 n1 c1, .slice A2 n2 c2] w fun e w' => e = .returned (.bool (eqL l1 l2)) ∧ ∃ q, w' = w.drewN q := by
 have H1 := Lib.hid h1
 have H2 := Lib.hid h2
 have N1 := Lib.hid hn1
 have N2 := Lib.hid hn2
 by_cases hne : n1 = n2
 ·subst hne
  have hz : ((n1 : Int) != (n1 : Int)) = false := by simp
  clear h1 h2 hn1 hn2
  go_enter Tryz.func15, Tryz.ntmps15
  go_wp2_with fail
  go_loopw [5, 13] (fun _ i wr => ∃ k q : Nat, k ≤ n1 ∧ i = .int .i64 (k : Int) ∧ wr = w.drewN q ∧ Hid (l1.take k = l2.take k)) (fun _ i _ => n1 - (intOf i).toNat)
  case atStart => exact ⟨0, 0, by omega, rfl, rfl, Lib.hid rfl⟩
  case round =>
   obtain ⟨k, q, hk, rfl, rfl, HT⟩ := hrel
   by_cases hlt : k < n1
   ·obtain ⟨x, hx⟩ : ∃ x, l1[k]? = some x := ⟨_, List.getElem?_eq_getElem (by rw [N1.out]; exact hlt)⟩
    obtain ⟨y, hy⟩ : ∃ y, l2[k]? = some y := ⟨_, List.getElem?_eq_getElem (by rw [N2.out]; exact hlt)⟩
    obtain ⟨b1, o1, rfl, e1⟩ := H1.out.scell hx
    obtain ⟨b2, o2, rfl, e2⟩ := H2.out.scell hy
    have HX := Lib.hid hx
    have HY := Lib.hid hy
    have hq := eq_sv x y
    generalize (⟨x.toArray⟩ : ByteArray) = bx at e1 hq
    generalize (⟨y.toArray⟩ : ByteArray) = by' at e2 hq
    have k0 : (0 : Int) ≤ (k : Int) := by omega
    have k1 : (k : Int) < (n1 : Int) := by omega
    clear hx hy
    by_cases he : x = y
    ·have g1 : (bx.toList == by'.toList) = true := by rw [hq]; simp [he]
     have HE := Lib.hid he
     clear he hq
     go_wp2_with fail
     go_quiet (fail)
     go_wp2_with fail
     go_roundw
     case rel => exact ⟨k + 1, _, by omega, by go_num, rfl, Lib.hid (take_step HX.out HY.out HE.out HT.out)⟩
     case measure => simp [intOf]; omega
    ·have g1 : (bx.toList == by'.toList) = false := by rw [hq]; simp [he]
     have HE := Lib.hid (eqL_at HX.out HY.out he)
     clear he hq
     go_wp2_with fail
     go_quiet (fail)
     go_wp2_with fail
     go_ret
     exact ⟨by rw [HE.out]; rfl, _, World.drewN_drewN _ _ _⟩
   ·obtain rfl : k = n1 := by omega
    have HE := Lib.hid (eqL_take (by rw [N1.out]; exact Nat.le_refl _) (by rw [N2.out]; exact Nat.le_refl _) HT.out)
    go_wp2_with fail
    go_ret
    exact ⟨by rw [HE.out]; rfl, _, rfl⟩
 ·have hz : ((n1 : Int) != (n2 : Int)) = true := by simp; omega
  have HE : Hid (eqL l1 l2 = false) := Lib.hid (eqL_len (by rw [hn1, hn2]; exact hne))
  clear h1 h2 hn1 hn2 hne
  go_enter Tryz.func15, Tryz.ntmps15
  go_wp2_with fail
  go_ret
  exact ⟨by rw [HE.out]; rfl, 0, rfl⟩
theorem slEqS_any {A1 A2 : Option Addr} {n1 n2 c1 c2 : Nat} (l1 l2 : List (List UInt8)) (w : World) (h1 : Rd w A1 (l1.map sv)) (h2 : Rd w A2 (l2.map sv)) (hn1 : l1.length = n1) (hn2 : l2.length = n2) (hb1 : n1 ≤ 9223372036854775807) (hb2 : n2 ≤ 9223372036854775807) :
 Calls Tryz.prog 15 #[.slice A1 n1 c1, .slice A2 n2 c2] w fun e w' => e = .returned (.bool (eqL l1 l2)) ∧ Below w.heap.size w w' :=
 (slEqS_anyD l1 l2 w h1 h2 hn1 hn2 hb1 hb2).mono fun e w' ⟨h1, q, h2⟩ => ⟨h1, by rw [h2]; exact below_of_drewN _ _⟩
set_option maxRecDepth 100000 in
set_option maxHeartbeats 1000000 in
theorem sameTextsG_anyD {A1 A2 : Option Addr} {n1 n2 c1 c2 : Nat} (l1 l2 : List (List UInt8)) (w : World) (h1 : Rd w A1 (l1.map sv)) (h2 : Rd w A2 (l2.map sv)) (hn1 : l1.length = n1) (hn2 : l2.length = n2) (hb1 : n1 ≤ 9223372036854775807) (hb2 : n2 ≤ 9223372036854775807) :
 Calls Tryz.prog 45 #[.slice A1 n1 c1, .slice A2 n2 c2] w fun e w' => e = .returned (.bool (eqL l1 l2)) ∧ ∃ q, w' = w.drewN q := by
 have H1 := Lib.hid h1
 have H2 := Lib.hid h2
 have N1 := Lib.hid hn1
 have N2 := Lib.hid hn2
 by_cases hne : n1 = n2
 ·subst hne
  have hz : ((n1 : Int) != (n1 : Int)) = false := by simp
  clear h1 h2 hn1 hn2
  go_enter Tryz.func45, Tryz.ntmps45
  go_wp2_with fail
  go_loopw [5, 13] (fun _ i wr => ∃ k q : Nat, k ≤ n1 ∧ i = .int .i64 (k : Int) ∧ wr = w.drewN q ∧ Hid (l1.take k = l2.take k)) (fun _ i _ => n1 - (intOf i).toNat)
  case atStart => exact ⟨0, 0, by omega, rfl, rfl, Lib.hid rfl⟩
  case round =>
   obtain ⟨k, q, hk, rfl, rfl, HT⟩ := hrel
   by_cases hlt : k < n1
   ·obtain ⟨x, hx⟩ : ∃ x, l1[k]? = some x := ⟨_, List.getElem?_eq_getElem (by rw [N1.out]; exact hlt)⟩
    obtain ⟨y, hy⟩ : ∃ y, l2[k]? = some y := ⟨_, List.getElem?_eq_getElem (by rw [N2.out]; exact hlt)⟩
    obtain ⟨b1, o1, rfl, e1⟩ := H1.out.scell hx
    obtain ⟨b2, o2, rfl, e2⟩ := H2.out.scell hy
    have HX := Lib.hid hx
    have HY := Lib.hid hy
    have hq := eq_sv x y
    generalize (⟨x.toArray⟩ : ByteArray) = bx at e1 hq
    generalize (⟨y.toArray⟩ : ByteArray) = by' at e2 hq
    have k0 : (0 : Int) ≤ (k : Int) := by omega
    have k1 : (k : Int) < (n1 : Int) := by omega
    clear hx hy
    by_cases he : x = y
    ·have g1 : (bx.toList == by'.toList) = true := by rw [hq]; simp [he]
     have HE := Lib.hid he
     clear he hq
     go_wp2_with fail
     go_quiet (fail)
     go_wp2_with fail
     go_roundw
     case rel => exact ⟨k + 1, _, by omega, by go_num, rfl, Lib.hid (take_step HX.out HY.out HE.out HT.out)⟩
     case measure => simp [intOf]; omega
    ·have g1 : (bx.toList == by'.toList) = false := by rw [hq]; simp [he]
     have HE := Lib.hid (eqL_at HX.out HY.out he)
     clear he hq
     go_wp2_with fail
     go_quiet (fail)
     go_wp2_with fail
     go_ret
     exact ⟨by rw [HE.out]; rfl, _, World.drewN_drewN _ _ _⟩
   ·obtain rfl : k = n1 := by omega
    have HE := Lib.hid (eqL_take (by rw [N1.out]; exact Nat.le_refl _) (by rw [N2.out]; exact Nat.le_refl _) HT.out)
    go_wp2_with fail
    go_ret
    exact ⟨by rw [HE.out]; rfl, _, rfl⟩
 ·have hz : ((n1 : Int) != (n2 : Int)) = true := by simp; omega
  have HE : Hid (eqL l1 l2 = false) := Lib.hid (eqL_len (by rw [hn1, hn2]; exact hne))
  clear h1 h2 hn1 hn2 hne
  go_enter Tryz.func45, Tryz.ntmps45
  go_wp2_with fail
  go_ret
  exact ⟨by rw [HE.out]; rfl, 0, rfl⟩
theorem sameTextsG_any {A1 A2 : Option Addr} {n1 n2 c1 c2 : Nat} (l1 l2 : List (List UInt8)) (w : World) (h1 : Rd w A1 (l1.map sv)) (h2 : Rd w A2 (l2.map sv)) (hn1 : l1.length = n1) (hn2 : l2.length = n2) (hb1 : n1 ≤ 9223372036854775807) (hb2 : n2 ≤ 9223372036854775807) :
 Calls Tryz.prog 45 #[.slice A1 n1 c1, .slice A2 n2 c2] w fun e w' => e = .returned (.bool (eqL l1 l2)) ∧ Below w.heap.size w w' :=
 (sameTextsG_anyD l1 l2 w h1 h2 hn1 hn2 hb1 hb2).mono fun e w' ⟨h1, q, h2⟩ => ⟨h1, by rw [h2]; exact below_of_drewN _ _⟩
set_option maxRecDepth 100000 in
set_option maxHeartbeats 2000000 in
theorem slEqM_any {A1 A2 : Option Addr} {n1 n2 c1 c2 : Nat} (l1 l2 : List (List UInt8 × List UInt8)) (w : World) (h1 : Rd w A1 (macV l1)) (h2 : Rd w A2 (macV l2)) (hn1 : l1.length = n1) (hn2 : l2.length = n2) (hb1 : n1 ≤ 9223372036854775807) (hb2 : n2 ≤ 9223372036854775807) :
 Calls Tryz.prog 96 #[.slice A1 n1 c1, .slice A2 n2 c2] w fun e w' => e = .returned (.bool (eqL l1 l2)) ∧ Below w.heap.size w w' := by
 have H1 := Lib.hid h1
 have H2 := Lib.hid h2
 have N1 := Lib.hid hn1
 have N2 := Lib.hid hn2
 by_cases hne : n1 = n2
 ·subst hne
  have hz : ((n1 : Int) != (n1 : Int)) = false := by simp
  clear h1 h2 hn1 hn2
  go_enter Tryz.func96, Tryz.ntmps96
  go_wp2_with fail
  go_loopw [5, 13] (fun _ i wr => ∃ k q : Nat, k ≤ n1 ∧ i = .int .i64 (k : Int) ∧ wr = w.drewN q ∧ Hid (l1.take k = l2.take k)) (fun _ i _ => n1 - (intOf i).toNat)
  case atStart => exact ⟨0, 0, by omega, rfl, rfl, Lib.hid rfl⟩
  case round =>
   obtain ⟨k, q, hk, rfl, rfl, HT⟩ := hrel
   by_cases hlt : k < n1
   ·obtain ⟨x, hx⟩ : ∃ x, l1[k]? = some x := ⟨_, List.getElem?_eq_getElem (by rw [N1.out]; exact hlt)⟩
    obtain ⟨y, hy⟩ : ∃ y, l2[k]? = some y := ⟨_, List.getElem?_eq_getElem (by rw [N2.out]; exact hlt)⟩
    obtain ⟨b1, o1, rfl, e1, e3⟩ := H1.out.macs hx
    obtain ⟨b2, o2, rfl, e2, e4⟩ := H2.out.macs hy
    have HX := Lib.hid hx
    have HY := Lib.hid hy
    obtain ⟨xa, xb⟩ := x
    obtain ⟨ya, yb⟩ := y
    dsimp only at e1 e2 e3 e4
    unfold sv at e1 e2 e3 e4
    have hq := eq_sv xa ya
    have hp := eq_sv xb yb
    generalize (⟨xa.toArray⟩ : ByteArray) = bxa at e1 hq
    generalize (⟨ya.toArray⟩ : ByteArray) = bya at e2 hq
    generalize (⟨xb.toArray⟩ : ByteArray) = bxb at e3 hp
    generalize (⟨yb.toArray⟩ : ByteArray) = byb at e4 hp
    have k0 : (0 : Int) ≤ (k : Int) := by omega
    have k1 : (k : Int) < (n1 : Int) := by omega
    clear hx hy
    by_cases he : xa = ya
    ·have g1 : (bxa.toList == bya.toList) = true := by rw [hq]; simp [he]
     by_cases he2 : xb = yb
     ·have g2 : (bxb.toList == byb.toList) = true := by rw [hp]; simp [he2]
      have HE : Hid ((xa, xb) = (ya, yb)) := Lib.hid (by rw [he, he2])
      clear he he2 hq hp
      go_wp2_with fail
      go_quiet (fail)
      go_wp2_with fail
      go_roundw
      case rel => exact ⟨k + 1, _, by omega, by go_num, rfl, Lib.hid (take_step HX.out HY.out HE.out HT.out)⟩
      case measure => simp [intOf]; omega
     ·have g2 : (bxb.toList == byb.toList) = false := by rw [hp]; simp [he2]
      have HE := Lib.hid (eqL_at HX.out HY.out (fun e => he2 (by injection e)))
      clear he he2 hq hp
      go_wp2_with fail
      go_quiet (fail)
      go_wp2_with fail
      go_ret
      exact ⟨by rw [HE.out]; rfl, below_drewN (below_of_drewN _ _) _⟩
    ·have g1 : (bxa.toList == bya.toList) = false := by rw [hq]; simp [he]
     have HE := Lib.hid (eqL_at HX.out HY.out (fun e => he (by injection e)))
     clear he hq hp
     go_wp2_with fail
     go_quiet (fail)
     go_wp2_with fail
     go_ret
     exact ⟨by rw [HE.out]; rfl, below_drewN (below_of_drewN _ _) _⟩
   ·obtain rfl : k = n1 := by omega
    have HE := Lib.hid (eqL_take (by rw [N1.out]; exact Nat.le_refl _) (by rw [N2.out]; exact Nat.le_refl _) HT.out)
    go_wp2_with fail
    go_ret
    exact ⟨by rw [HE.out]; rfl, below_of_drewN _ _⟩
 ·have hz : ((n1 : Int) != (n2 : Int)) = true := by simp; omega
  have HE : Hid (eqL l1 l2 = false) := Lib.hid (eqL_len (by rw [hn1, hn2]; exact hne))
  clear h1 h2 hn1 hn2 hne
  go_enter Tryz.func96, Tryz.ntmps96
  go_wp2_with fail
  go_ret
  exact ⟨by rw [HE.out]; rfl, Below.refl _ _⟩
set_option maxRecDepth 100000 in
set_option maxHeartbeats 2000000 in
theorem slEqI_any {A1 A2 : Option Addr} {n1 n2 c1 c2 : Nat} (l1 l2 : List (List UInt8 × List UInt8)) (w : World) (h1 : Rd w A1 (macV l1)) (h2 : Rd w A2 (macV l2)) (hn1 : l1.length = n1) (hn2 : l2.length = n2) (hb1 : n1 ≤ 9223372036854775807) (hb2 : n2 ≤ 9223372036854775807) :
 Calls Tryz.prog 97 #[.slice A1 n1 c1, .slice A2 n2 c2] w fun e w' => e = .returned (.bool (eqL l1 l2)) ∧ Below w.heap.size w w' := by
 have H1 := Lib.hid h1
 have H2 := Lib.hid h2
 have N1 := Lib.hid hn1
 have N2 := Lib.hid hn2
 by_cases hne : n1 = n2
 ·subst hne
  have hz : ((n1 : Int) != (n1 : Int)) = false := by simp
  clear h1 h2 hn1 hn2
  go_enter Tryz.func97, Tryz.ntmps97
  go_wp2_with fail
  go_loopw [5, 13] (fun _ i wr => ∃ k q : Nat, k ≤ n1 ∧ i = .int .i64 (k : Int) ∧ wr = w.drewN q ∧ Hid (l1.take k = l2.take k)) (fun _ i _ => n1 - (intOf i).toNat)
  case atStart => exact ⟨0, 0, by omega, rfl, rfl, Lib.hid rfl⟩
  case round =>
   obtain ⟨k, q, hk, rfl, rfl, HT⟩ := hrel
   by_cases hlt : k < n1
   ·obtain ⟨x, hx⟩ : ∃ x, l1[k]? = some x := ⟨_, List.getElem?_eq_getElem (by rw [N1.out]; exact hlt)⟩
    obtain ⟨y, hy⟩ : ∃ y, l2[k]? = some y := ⟨_, List.getElem?_eq_getElem (by rw [N2.out]; exact hlt)⟩
    obtain ⟨b1, o1, rfl, e1, e3⟩ := H1.out.macs hx
    obtain ⟨b2, o2, rfl, e2, e4⟩ := H2.out.macs hy
    have HX := Lib.hid hx
    have HY := Lib.hid hy
    obtain ⟨xa, xb⟩ := x
    obtain ⟨ya, yb⟩ := y
    dsimp only at e1 e2 e3 e4
    unfold sv at e1 e2 e3 e4
    have hq := eq_sv xa ya
    have hp := eq_sv xb yb
    generalize (⟨xa.toArray⟩ : ByteArray) = bxa at e1 hq
    generalize (⟨ya.toArray⟩ : ByteArray) = bya at e2 hq
    generalize (⟨xb.toArray⟩ : ByteArray) = bxb at e3 hp
    generalize (⟨yb.toArray⟩ : ByteArray) = byb at e4 hp
    have k0 : (0 : Int) ≤ (k : Int) := by omega
    have k1 : (k : Int) < (n1 : Int) := by omega
    clear hx hy
    by_cases he : xa = ya
    ·have g1 : (bxa.toList == bya.toList) = true := by rw [hq]; simp [he]
     by_cases he2 : xb = yb
     ·have g2 : (bxb.toList == byb.toList) = true := by rw [hp]; simp [he2]
      have HE : Hid ((xa, xb) = (ya, yb)) := Lib.hid (by rw [he, he2])
      clear he he2 hq hp
      go_wp2_with fail
      go_quiet (fail)
      go_wp2_with fail
      go_roundw
      case rel => exact ⟨k + 1, _, by omega, by go_num, rfl, Lib.hid (take_step HX.out HY.out HE.out HT.out)⟩
      case measure => simp [intOf]; omega
     ·have g2 : (bxb.toList == byb.toList) = false := by rw [hp]; simp [he2]
      have HE := Lib.hid (eqL_at HX.out HY.out (fun e => he2 (by injection e)))
      clear he he2 hq hp
      go_wp2_with fail
      go_quiet (fail)
      go_wp2_with fail
      go_ret
      exact ⟨by rw [HE.out]; rfl, below_drewN (below_of_drewN _ _) _⟩
    ·have g1 : (bxa.toList == bya.toList) = false := by rw [hq]; simp [he]
     have HE := Lib.hid (eqL_at HX.out HY.out (fun e => he (by injection e)))
     clear he hq hp
     go_wp2_with fail
     go_quiet (fail)
     go_wp2_with fail
     go_ret
     exact ⟨by rw [HE.out]; rfl, below_drewN (below_of_drewN _ _) _⟩
   ·obtain rfl : k = n1 := by omega
    have HE := Lib.hid (eqL_take (by rw [N1.out]; exact Nat.le_refl _) (by rw [N2.out]; exact Nat.le_refl _) HT.out)
    go_wp2_with fail
    go_ret
    exact ⟨by rw [HE.out]; rfl, below_of_drewN _ _⟩
 ·have hz : ((n1 : Int) != (n2 : Int)) = true := by simp; omega
  have HE : Hid (eqL l1 l2 = false) := Lib.hid (eqL_len (by rw [hn1, hn2]; exact hne))
  clear h1 h2 hn1 hn2 hne
  go_enter Tryz.func97, Tryz.ntmps97
  go_wp2_with fail
  go_ret
  exact ⟨by rw [HE.out]; rfl, Below.refl _ _⟩
end Go.Proofs.YtoandhhkmkgmaaaGreatDoor
namespace Go.Proofs.YtoandhhkmkgmaaaGreatDoor
open Go.RowKit

def eqR (a b : RuleT) : Bool := eqL a.1 b.1 && eqL a.2 b.2
theorem eqR_iff (a b : RuleT) : eqR a b = true ↔ a = b := by
 unfold eqR eqL
 rw [Bool.and_eq_true, decide_eq_true_iff, decide_eq_true_iff]
 exact ⟨fun h => Prod.ext h.1 h.2, fun h => by rw [h]; exact ⟨rfl, rfl⟩⟩
def eqF (f g : FileT) : Bool := eqL f.mac g.mac && eqL f.pho g.pho && eqL f.inf g.inf && eqL f.rul g.rul
noncomputable def chkF (f : FileT) : Nat := if (fileP (linesP f)).1 = 0 ∧ eqF f (fileP (linesP f)).2.2 = false then 3 else (fileP (linesP f)).1
set_option maxRecDepth 100000 in
set_option maxHeartbeats 2000000 in
theorem sameFn_any (x y : RSlot) (w : World) (hx : RdTwo x w) (hy : RdTwo y w) :
 Calls Tryz.prog 99 #[.agg #[rsT x, rsN x], .agg #[rsT y, rsN y]] w fun e w' => e = .returned (.bool (eqR x.2.2 y.2.2)) ∧ Below w.heap.size w w' := by
 obtain ⟨⟨X1, xc1⟩, ⟨X2, xc2⟩, r⟩ := x
 obtain ⟨⟨Y1, yc1⟩, ⟨Y2, yc2⟩, s⟩ := y
 simp only [rsT, rsN]
 have CT := Lib.hid (fun W (hW : Below w.heap.size w W) => slEqS_any (c1 := xc1) (c2 := yc1) r.1 s.1 W (hx.t.below hW) (hy.t.below hW) rfl rfl hx.tb hy.tb)
 have CN := Lib.hid (fun W (hW : Below w.heap.size w W) => slEqS_any (c1 := xc2) (c2 := yc2) r.2 s.2 W (hx.n.below hW) (hy.n.below hW) rfl rfl hx.nb hy.nb)
 clear hx hy
 have HER : Hid (eqR r s = (eqL r.1 s.1 && eqL r.2 s.2)) := Lib.hid rfl
 generalize r.1.length = n1 at *
 generalize r.2.length = n2 at *
 generalize s.1.length = m1 at *
 generalize s.2.length = m2 at *
 have HB0 := Lib.hid (below_new (Below.refl w.heap.size w) (.cells #[.slice X1 n1 xc1, .slice X2 n2 xc2] 78))
 have HK0 := Lib.hid (Blk.new w #[.slice X1 n1 xc1, .slice X2 n2 xc2] 78)
 have HSZ : Hid ((w.alloc (.cells #[.slice X1 n1 xc1, .slice X2 n2 xc2] 78)).heap.size = w.heap.size + 1) := Lib.hid (by simp)
 have hb1 := below_new (Below.refl (w.alloc (.cells #[.slice X1 n1 xc1, .slice X2 n2 xc2] 78)).heap.size (w.alloc (.cells #[.slice X1 n1 xc1, .slice X2 n2 xc2] 78))) (.cells #[.slice Y1 m1 yc1, .slice Y2 m2 yc2] 78)
 have HB1 := Lib.hid (below_then HB0.out hb1)
 have HK1 := Lib.hid (Blk.new (w.alloc (.cells #[.slice X1 n1 xc1, .slice X2 n2 xc2] 78)) #[.slice Y1 m1 yc1, .slice Y2 m2 yc2] 78)
 have HK2 := Lib.hid (HK0.out.below hb1 HK0.out.lt)
 rw [HSZ.out] at HK1
 clear hb1
 go_enter Tryz.func99, Tryz.ntmps99
 go_upto_region 1 with fail
 try rw [HSZ.out]
 generalize (w.alloc (.cells #[.slice X1 n1 xc1, .slice X2 n2 xc2] 78)).alloc (.cells #[.slice Y1 m1 yc1, .slice Y2 m2 yc2] 78) = w2 at *
 have a0 := HK2.out.cell (j := 0) rfl
 have a1 := HK2.out.cell (j := 1) rfl
 have d0 := HK1.out.cell (j := 0) rfl
 have d1 := HK1.out.cell (j := 1) rfl
 cases h1 : eqL r.1 s.1 with
 | false =>
   rw [h1] at CT HER
   clear h1
   go_wp2_with fail
   refine (CT.out _ HB1.out).mono ?_
   rintro e w3 ⟨rfl, hb3⟩
   have HB3 := Lib.hid (below_then HB1.out hb3)
   clear hb3
   go_wp2_with fail
   go_ret
   exact ⟨by rw [HER.out]; rfl, HB3.out⟩
 | true =>
   rw [h1] at CT HER
   clear h1
   go_wp2_with fail
   refine (CT.out _ HB1.out).mono ?_
   rintro e w3 ⟨rfl, hb3⟩
   have HB3 := Lib.hid (below_then HB1.out hb3)
   have HK3 := Lib.hid (HK2.out.below hb3 HK2.out.lt)
   have HK4 := Lib.hid (HK1.out.below hb3 HK1.out.lt)
   clear hb3 a0 a1 d0 d1
   have a1 := HK3.out.cell (j := 1) rfl
   have d1 := HK4.out.cell (j := 1) rfl
   go_wp2_with fail
   refine (CN.out _ HB3.out).mono ?_
   rintro e w4 ⟨rfl, hb4⟩
   have HB4 := Lib.hid (below_then HB3.out hb4)
   clear hb4
   cases h2 : eqL r.2 s.2 with
   | false =>
     rw [h2] at HER
     clear h2
     go_wp2_with fail
     go_ret
     exact ⟨by rw [HER.out]; rfl, HB4.out⟩
   | true =>
     rw [h2] at HER
     clear h2
     go_wp2_with fail
     go_ret
     exact ⟨by rw [HER.out]; rfl, HB4.out⟩
theorem rulesOf_atF {L : List RSlot} {k : Nat} {x : RSlot} (h : L[k]? = some x) : (rulesOf L)[k]? = some x.2.2 := by unfold rulesOf; rw [List.getElem?_map, h]; rfl
set_option maxRecDepth 100000 in
set_option maxHeartbeats 2000000 in
theorem eqFunc_any {A1 A2 : Option Addr} {n1 n2 c1 c2 : Nat} (L1 L2 : List RSlot) (w : World) (h1 : RsRd A1 L1 w) (h2 : RsRd A2 L2 w) (hn1 : L1.length = n1) (hn2 : L2.length = n2) (hb1 : n1 ≤ 9223372036854775807) (hb2 : n2 ≤ 9223372036854775807) :
 Calls Tryz.prog 98 #[.slice A1 n1 c1, .slice A2 n2 c2, .func (.func 99) #[] #[]] w fun e w' => e = .returned (.bool (eqL (rulesOf L1) (rulesOf L2))) ∧ Below w.heap.size w w' := by
 have H1 := Lib.hid h1
 have H2 := Lib.hid h2
 have N1 := Lib.hid hn1
 have N2 := Lib.hid hn2
 have hl1 : (rulesOf L1).length = n1 := by unfold rulesOf; simp [hn1]
 have hl2 : (rulesOf L2).length = n2 := by unfold rulesOf; simp [hn2]
 have M1 := Lib.hid hl1
 have M2 := Lib.hid hl2
 by_cases hne : n1 = n2
 ·subst hne
  have hz : ((n1 : Int) != (n1 : Int)) = false := by simp
  clear h1 h2 hn1 hn2 hl1 hl2
  go_enter Tryz.func98, Tryz.ntmps98
  go_wp2_with fail
  go_loopw [7, 17] (fun _ i wr => ∃ k : Nat, k ≤ n1 ∧ i = .int .i64 (k : Int) ∧ Hid (Below w.heap.size w wr) ∧ Hid ((rulesOf L1).take k = (rulesOf L2).take k)) (fun _ i _ => n1 - (intOf i).toNat)
  case atStart => exact ⟨0, by omega, rfl, Lib.hid (Below.refl _ _), Lib.hid rfl⟩
  case round =>
   obtain ⟨k, hk, rfl, HB, HT⟩ := hrel
   by_cases hlt : k < n1
   ·obtain ⟨x, hx⟩ : ∃ x, L1[k]? = some x := ⟨_, List.getElem?_eq_getElem (by rw [N1.out]; exact hlt)⟩
    obtain ⟨y, hy⟩ : ∃ y, L2[k]? = some y := ⟨_, List.getElem?_eq_getElem (by rw [N2.out]; exact hlt)⟩
    have HX := Lib.hid (rulesOf_atF hx)
    have HY := Lib.hid (rulesOf_atF hy)
    have HF := Lib.hid (fun W (hW : Below w.heap.size w W) => sameFn_any x y W ((H1.out.each x (List.mem_of_getElem? hx)).below hW) ((H2.out.each y (List.mem_of_getElem? hy)).below hW))
    obtain ⟨b1, o1, rfl, a1, a2⟩ := (H1.out.rd.below HB.out).two hx
    obtain ⟨b2, o2, rfl, d1, d2⟩ := (H2.out.rd.below HB.out).two hy
    have hcap : 2 * k = k * 2 := by omega
    rw [hcap] at a1 a2 d1 d2
    simp only [rsT, rsN] at a1 a2 d1 d2 HF
    generalize x.2.2.1.length = u1 at *
    generalize x.2.2.2.length = u2 at *
    generalize y.2.2.1.length = u3 at *
    generalize y.2.2.2.length = u4 at *
    have hb3 := below_new (Below.refl wr.heap.size wr) (.cells #[.slice x.1.1 u1 x.1.2, .slice x.2.1.1 u2 x.2.1.2] 78)
    have HB3 := Lib.hid (below_then HB.out hb3)
    have HK3 := Lib.hid (Blk.new wr #[.slice x.1.1 u1 x.1.2, .slice x.2.1.1 u2 x.2.1.2] 78)
    have e1 := cell_kept d1 hb3
    have e2 := cell_kept d2 hb3
    have k0 : (0 : Int) ≤ (k : Int) := by omega
    have k1 : (k : Int) < (n1 : Int) := by omega
    clear hx hy hcap hb3
    go_upto_region 6 with fail
    generalize wr.alloc (.cells #[.slice x.1.1 u1 x.1.2, .slice x.2.1.1 u2 x.2.1.2] 78) = w3 at *
    generalize wr.heap.size = k3 at *
    have hb4 := below_new (Below.refl w3.heap.size w3) (.cells #[.slice y.1.1 u3 y.1.2, .slice y.2.1.1 u4 y.2.1.2] 78)
    have HB4 := Lib.hid (below_then HB3.out hb4)
    have HK4 := Lib.hid (Blk.new w3 #[.slice y.1.1 u3 y.1.2, .slice y.2.1.1 u4 y.2.1.2] 78)
    have HK5 := Lib.hid (HK3.out.below hb4 HK3.out.lt)
    clear hb4 a1 a2 d1 d2
    go_upto_region 7 with fail
    generalize w3.alloc (.cells #[.slice y.1.1 u3 y.1.2, .slice y.2.1.1 u4 y.2.1.2] 78) = w4 at *
    generalize w3.heap.size = k4 at *
    clear e1 e2
    have a0 := HK5.out.cell (j := 0) rfl
    have a1 := HK5.out.cell (j := 1) rfl
    have d0 := HK4.out.cell (j := 0) rfl
    have d1 := HK4.out.cell (j := 1) rfl
    have HF4 := Lib.hid (HF.out w4 HB4.out)
    by_cases he : x.2.2 = y.2.2
    ·have HE := Lib.hid he
     rw [(eqR_iff _ _).2 he] at HF4
     clear he
     go_wp2_with fail
     refine HF4.out.mono ?_
     rintro e w5 ⟨rfl, hb5⟩
     have HB5 := Lib.hid (below_then HB4.out hb5)
     clear hb5
     go_wp2_with fail
     go_roundw
     case rel => exact ⟨k + 1, by omega, by go_num, HB5, Lib.hid (take_step HX.out HY.out HE.out HT.out)⟩
     case measure => simp [intOf]; omega
    ·have HE := Lib.hid (eqL_at HX.out HY.out he)
     have hf : eqR x.2.2 y.2.2 = false := by
      cases hc : eqR x.2.2 y.2.2 with
      | false => rfl
      | true => exact absurd ((eqR_iff _ _).1 hc) he
     rw [hf] at HF4
     clear he hf
     go_wp2_with fail
     refine HF4.out.mono ?_
     rintro e w5 ⟨rfl, hb5⟩
     have HB5 := Lib.hid (below_then HB4.out hb5)
     clear hb5
     go_wp2_with fail
     go_ret
     exact ⟨by rw [HE.out]; rfl, HB5.out⟩
   ·obtain rfl : k = n1 := by omega
    have HE := Lib.hid (eqL_take (by rw [M1.out]; exact Nat.le_refl _) (by rw [M2.out]; exact Nat.le_refl _) HT.out)
    go_wp2_with fail
    go_ret
    exact ⟨by rw [HE.out]; rfl, HB.out⟩
 ·have hz : ((n1 : Int) != (n2 : Int)) = true := by simp; omega
  have HE : Hid (eqL (rulesOf L1) (rulesOf L2) = false) := Lib.hid (eqL_len (by rw [hl1, hl2]; exact hne))
  clear h1 h2 hn1 hn2 hne hl1 hl2
  go_enter Tryz.func98, Tryz.ntmps98
  go_wp2_with fail
  go_ret
  exact ⟨by rw [HE.out]; rfl, Below.refl _ _⟩
structure SzL (f : FileT) : Prop where
 mac : f.mac.length ≤ 9223372036854775807
 pho : f.pho.length ≤ 9223372036854775807
 inf : f.inf.length ≤ 9223372036854775807
 rul : f.rul.length ≤ 9223372036854775807
structure TwoF (A0 A1 A2 A3 B0 B1 B2 B3 : Option Addr) (n0 n1 n2 n3 m0 m1 m2 m3 : Nat) (f g : FileT) (L M : List RSlot) (w : World) : Prop where
 a : FileRd A0 A1 A2 A3 f L w
 b : FileRd B0 B1 B2 B3 g M w
 la : SzL f
 lb : SzL g
 e0 : f.mac.length = n0
 e1 : f.pho.length = n1
 e2 : f.inf.length = n2
 e3 : L.length = n3
 g0 : g.mac.length = m0
 g1 : g.pho.length = m1
 g2 : g.inf.length = m2
 g3 : M.length = m3
section
variable {A0 A1 A2 A3 B0 B1 B2 B3 : Option Addr} {n0 n1 n2 n3 c0 c1 c2 c3 m0 m1 m2 m3 d0 d1 d2 d3 : Nat} (f g : FileT) (L M : List RSlot) (w : World) (h : TwoF A0 A1 A2 A3 B0 B1 B2 B3 n0 n1 n2 n3 m0 m1 m2 m3 f g L M w)
include h
set_option maxRecDepth 100000 in
set_option maxHeartbeats 4000000 in
theorem fSame_any : Calls Tryz.prog 48 #[.agg #[.slice A0 n0 c0, .slice A1 n1 c1, .slice A2 n2 c2, .slice A3 n3 c3], .agg #[.slice B0 m0 d0, .slice B1 m1 d1, .slice B2 m2 d2, .slice B3 m3 d3]] w fun e w' => e = .returned (.bool (eqF f g)) ∧ Below w.heap.size w w' := by
 have CM := Lib.hid (fun W (hW : Below w.heap.size w W) => slEqM_any (c1 := c0) (c2 := d0) f.mac g.mac W (h.a.mac.below hW) (h.b.mac.below hW) h.e0 h.g0 (by rw [← h.e0]; exact h.la.mac) (by rw [← h.g0]; exact h.lb.mac))
 have CP := Lib.hid (fun W (hW : Below w.heap.size w W) => slEqS_any (c1 := c1) (c2 := d1) f.pho g.pho W (h.a.pho.below hW) (h.b.pho.below hW) h.e1 h.g1 (by rw [← h.e1]; exact h.la.pho) (by rw [← h.g1]; exact h.lb.pho))
 have CI := Lib.hid (fun W (hW : Below w.heap.size w W) => slEqI_any (c1 := c2) (c2 := d2) f.inf g.inf W (h.a.inf.below hW) (h.b.inf.below hW) h.e2 h.g2 (by rw [← h.e2]; exact h.la.inf) (by rw [← h.g2]; exact h.lb.inf))
 have CR := Lib.hid (fun W (hW : Below w.heap.size w W) => eqFunc_any (c1 := c3) (c2 := d3) L M W (h.a.rul.below hW) (h.b.rul.below hW) h.e3 h.g3 (by rw [← h.e3, ← h.a.len]; exact h.la.rul) (by rw [← h.g3, ← h.b.len]; exact h.lb.rul))
 have HER : Hid (eqF f g = (eqL f.mac g.mac && eqL f.pho g.pho && eqL f.inf g.inf && eqL (rulesOf L) (rulesOf M))) := Lib.hid (by unfold eqF; rw [h.a.eq, h.b.eq])
 clear h
 have HB0 := Lib.hid (below_new (Below.refl w.heap.size w) (.cells #[.slice A0 n0 c0, .slice A1 n1 c1, .slice A2 n2 c2, .slice A3 n3 c3] 27))
 have HK0 := Lib.hid (Blk.new w #[.slice A0 n0 c0, .slice A1 n1 c1, .slice A2 n2 c2, .slice A3 n3 c3] 27)
 have HSZ : Hid ((w.alloc (.cells #[.slice A0 n0 c0, .slice A1 n1 c1, .slice A2 n2 c2, .slice A3 n3 c3] 27)).heap.size = w.heap.size + 1) := Lib.hid (by simp)
 have hb1 := below_new (Below.refl (w.alloc (.cells #[.slice A0 n0 c0, .slice A1 n1 c1, .slice A2 n2 c2, .slice A3 n3 c3] 27)).heap.size (w.alloc (.cells #[.slice A0 n0 c0, .slice A1 n1 c1, .slice A2 n2 c2, .slice A3 n3 c3] 27))) (.cells #[.slice B0 m0 d0, .slice B1 m1 d1, .slice B2 m2 d2, .slice B3 m3 d3] 27)
 have HB1 := Lib.hid (below_then HB0.out hb1)
 have HK1 := Lib.hid (Blk.new (w.alloc (.cells #[.slice A0 n0 c0, .slice A1 n1 c1, .slice A2 n2 c2, .slice A3 n3 c3] 27)) #[.slice B0 m0 d0, .slice B1 m1 d1, .slice B2 m2 d2, .slice B3 m3 d3] 27)
 have HK2 := Lib.hid (HK0.out.below hb1 HK0.out.lt)
 rw [HSZ.out] at HK1
 clear hb1
 go_enter Tryz.func48, Tryz.ntmps48
 go_upto_region 1 with fail
 try rw [HSZ.out]
 generalize (w.alloc (.cells #[.slice A0 n0 c0, .slice A1 n1 c1, .slice A2 n2 c2, .slice A3 n3 c3] 27)).alloc (.cells #[.slice B0 m0 d0, .slice B1 m1 d1, .slice B2 m2 d2, .slice B3 m3 d3] 27) = w2 at *
 have a0 := HK2.out.cell (j := 0) rfl
 have b0 := HK1.out.cell (j := 0) rfl
 go_wp2_with fail
 refine (CM.out _ HB1.out).mono ?_
 rintro e w3 ⟨rfl, hb⟩
 have HBN0 := Lib.hid (below_then HB1.out hb)
 have HKA0 := Lib.hid (HK2.out.below hb HK2.out.lt)
 have HKC0 := Lib.hid (HK1.out.below hb HK1.out.lt)
 clear hb a0 b0
 have a1 := HKA0.out.cell (j := 1) rfl
 have b1 := HKC0.out.cell (j := 1) rfl
 cases h0 : eqL f.mac g.mac with
 | false =>
   rw [h0] at HER
   clear h0
   go_wp2_with fail
   go_ret
   exact ⟨by rw [HER.out]; simp, HBN0.out⟩
 | true =>
   rw [h0] at HER
   clear h0
   go_wp2_with fail
   refine (CP.out _ HBN0.out).mono ?_
   rintro e w4 ⟨rfl, hb⟩
   have HBN1 := Lib.hid (below_then HBN0.out hb)
   have HKA1 := Lib.hid (HKA0.out.below hb HKA0.out.lt)
   have HKC1 := Lib.hid (HKC0.out.below hb HKC0.out.lt)
   clear hb a1 b1
   have a2 := HKA1.out.cell (j := 2) rfl
   have b2 := HKC1.out.cell (j := 2) rfl
   cases h1 : eqL f.pho g.pho with
   | false =>
     rw [h1] at HER
     clear h1
     go_wp2_with fail
     go_ret
     exact ⟨by rw [HER.out]; simp, HBN1.out⟩
   | true =>
     rw [h1] at HER
     clear h1
     go_wp2_with fail
     refine (CI.out _ HBN1.out).mono ?_
     rintro e w5 ⟨rfl, hb⟩
     have HBN2 := Lib.hid (below_then HBN1.out hb)
     have HKA2 := Lib.hid (HKA1.out.below hb HKA1.out.lt)
     have HKC2 := Lib.hid (HKC1.out.below hb HKC1.out.lt)
     clear hb a2 b2
     have a3 := HKA2.out.cell (j := 3) rfl
     have b3 := HKC2.out.cell (j := 3) rfl
     cases h2 : eqL f.inf g.inf with
     | false =>
       rw [h2] at HER
       clear h2
       go_wp2_with fail
       go_ret
       exact ⟨by rw [HER.out]; simp, HBN2.out⟩
     | true =>
       rw [h2] at HER
       clear h2
       go_wp2_with fail
       refine (CR.out _ HBN2.out).mono ?_
       rintro e w6 ⟨rfl, hb⟩
       have HBN3 := Lib.hid (below_then HBN2.out hb)
       have HKA3 := Lib.hid (HKA2.out.below hb HKA2.out.lt)
       have HKC3 := Lib.hid (HKC2.out.below hb HKC2.out.lt)
       clear hb a3 b3
       cases h3 : eqL (rulesOf L) (rulesOf M) with
       | false =>
         rw [h3] at HER
         clear h3
         go_wp2_with fail
         go_ret
         exact ⟨by rw [HER.out]; simp, HBN3.out⟩
       | true =>
         rw [h3] at HER
         clear h3
         go_wp2_with fail
         go_ret
         exact ⟨by rw [HER.out]; simp, HBN3.out⟩
end
end Go.Proofs.YtoandhhkmkgmaaaGreatDoor
namespace Go.Proofs.YtoandhhkmkgmaaaGreatDoor
open Go.RowKit

theorem parseFrom_sz (M : List MacT) : ∀ (l : List (List UInt8)) (i q : Nat) (f : FileT), f.mac.length ≤ 200 → f.pho.length ≤ 20 → f.rul.length ≤ 100 → f.inf.length + l.length ≤ q →
 (parseFrom M i f l).2.2.mac.length ≤ 200 ∧ (parseFrom M i f l).2.2.pho.length ≤ 20 ∧ (parseFrom M i f l).2.2.rul.length ≤ 100 ∧ (parseFrom M i f l).2.2.inf.length ≤ q := by
 intro l
 induction l with
 | nil => intro i q f h0 h1 h2 h3; unfold parseFrom; exact ⟨h0, h1, h2, by simpa using h3⟩
 | cons s l ih =>
   intro i q f h0 h1 h2 h3
   have hz : (emptyF.mac.length ≤ 200 ∧ emptyF.pho.length ≤ 20 ∧ emptyF.rul.length ≤ 100 ∧ emptyF.inf.length ≤ q) := ⟨by decide, by decide, by decide, Nat.zero_le _⟩
   simp only [List.length_cons] at h3
   unfold parseFrom
   split
   ·exact ih _ _ _ h0 h1 h2 (by omega)
   ·split
    ·exact hz
    ·split
     ·exact hz
     ·split
      ·exact hz
      ·rename_i h
       have hk := addP_keeps (q := f.inf.length) (Decidable.byContradiction h) h1 h2 (Nat.le_refl _)
       exact ih _ _ _ (by rw [addP_mac]; exact h0) hk.1 hk.2.1 (by omega)
theorem fileP_sz (l : List (List UInt8)) : (fileP l).2.2.mac.length ≤ 200 ∧ (fileP l).2.2.pho.length ≤ 20 ∧ (fileP l).2.2.rul.length ≤ 100 ∧ (fileP l).2.2.inf.length ≤ 200 := by
 have hz : (emptyF.mac.length ≤ 200 ∧ emptyF.pho.length ≤ 20 ∧ emptyF.rul.length ≤ 100 ∧ emptyF.inf.length ≤ 200) := by decide
 unfold fileP
 split
 ·exact hz
 ·rename_i hl
  split
  ·exact hz
  ·exact parseFrom_sz _ _ _ _ _ (by dsimp only; have := macrosP_len l; omega) (by show 0 ≤ 20; omega) (by show 0 ≤ 100; omega) (by show 0 + l.length ≤ 200; omega)
theorem fileP_szl (l : List (List UInt8)) : SzL (fileP l).2.2 := by
 obtain ⟨h1, h2, h3, h4⟩ := fileP_sz l
 exact ⟨by omega, by omega, by omega, by omega⟩
theorem SzF.szl {f : FileT} (h : SzF f) : SzL f := ⟨by have := h.mac; omega, by have := h.phos.1; omega, by have := h.inf; omega, by have := h.rul; omega⟩
structure FileIn (A0 A1 A2 A3 : Option Addr) (n0 n1 n2 n3 c1 : Nat) (f : FileT) (L : List RSlot) (w : World) : Prop where
 rd : FileRd A0 A1 A2 A3 f L w
 sz : SzF f
 e0 : f.mac.length = n0
 e1 : f.pho.length = n1
 e2 : f.inf.length = n2
 e3 : L.length = n3
 hp : n1 ≤ c1
theorem FileIn.below {A0 A1 A2 A3 : Option Addr} {n0 n1 n2 n3 c1 : Nat} {f : FileT} {L : List RSlot} {w w' : World} (h : FileIn A0 A1 A2 A3 n0 n1 n2 n3 c1 f L w) (hb : Below w.heap.size w w') : FileIn A0 A1 A2 A3 n0 n1 n2 n3 c1 f L w' :=
 ⟨h.rd.below hb, h.sz, h.e0, h.e1, h.e2, h.e3, h.hp⟩
def ChkPost (v : Nat) (w : World) (e : Ending) (w' : World) : Prop := e = .returned (.int .i64 (v : Int)) ∧ Below w.heap.size w w'
section
variable {A0 A1 A2 A3 : Option Addr} {n0 n1 n2 n3 c0 c1 c2 c3 : Nat} (f : FileT) (L : List RSlot) (w : World) (h : FileIn A0 A1 A2 A3 n0 n1 n2 n3 c1 f L w) (mx : Int) (hmx : w.cell? ⟨1, 0, none⟩ = some (.int .i64 mx)) (h0 : 1 < w.heap.size)
include h hmx h0
set_option maxRecDepth 100000 in
set_option maxHeartbeats 4000000 in
theorem fCheck_any : Calls Tryz.prog 14 #[.agg #[.slice A0 n0 c0, .slice A1 n1 c1, .slice A2 n2 c2, .slice A3 n3 c3]] w (ChkPost (chkF f) w) := by
 have HF := Lib.hid h
 have HL := Lib.hid (fun W (hW : Below w.heap.size w W) => fLines_any (c0 := c0) (c1 := c1) (c2 := c2) (c3 := c3) f L W (h.rd.below hW) h.sz h.e0 h.e1 h.e2 h.e3 h.hp)
 have HMX := Lib.hid (fun W' (hb : Below w.heap.size w W') => cell_belowF hmx h0 hb)
 have HM0 := Lib.hid h0
 have HB0 := Lib.hid (below_new (Below.refl w.heap.size w) (.cells #[.slice A0 n0 c0, .slice A1 n1 c1, .slice A2 n2 c2, .slice A3 n3 c3] 27))
 have HK0 := Lib.hid (Blk.new w #[.slice A0 n0 c0, .slice A1 n1 c1, .slice A2 n2 c2, .slice A3 n3 c3] 27)
 clear h hmx h0
 go_enter Tryz.func14, Tryz.ntmps14
 go_upto_region 1 with fail
 generalize w.alloc (.cells #[.slice A0 n0 c0, .slice A1 n1 c1, .slice A2 n2 c2, .slice A3 n3 c3] 27) = w0 at *
 have a0 := HK0.out.cell (j := 0) rfl
 have a1 := HK0.out.cell (j := 1) rfl
 have a2 := HK0.out.cell (j := 2) rfl
 have a3 := HK0.out.cell (j := 3) rfl
 go_wp2_with fail
 refine (HL.out _ HB0.out).mono ?_
 rintro e w1 ⟨A, n, c, rfl, ho⟩
 have HO := Lib.hid ho
 have HB1 := Lib.hid (below_then HB0.out ho.bel)
 have HP := Lib.hid (fParse_any (A := A) (n := n) (c := c) (linesP f) w1 (Rd.own2 ho.own) ho.len (fun s hs => by have := HF.out.sz.lin s hs; omega) mx (HMX.out _ HB1.out) (Nat.lt_of_lt_of_le HM0.out HB1.out.size))
 clear ho a0 a1 a2 a3
 go_wp2_with fail
 refine HP.out.mono ?_
 rintro e w2 ⟨hb2, M, v0, v1, v2, v3, rfl, hfa⟩
 have HB2 := Lib.hid (below_then HB1.out hb2)
 have HK2 := Lib.hid ((HK0.out.below HO.out.bel HK0.out.lt).below hb2 (HK0.out.below HO.out.bel HK0.out.lt).lt)
 have HSG := Lib.hid (fileP_szl (linesP f))
 obtain ⟨G0, d0, G1, d1, G2, d2, G3, d3, rfl, rfl, rfl, rfl, hrd, _⟩ := hfa.rd
 have HE : Hid (chkF f = if (fileP (linesP f)).1 = 0 ∧ eqF f (fileP (linesP f)).2.2 = false then 3 else (fileP (linesP f)).1) := Lib.hid rfl
 generalize (fileP (linesP f)).2.2 = g at *
 generalize (fileP (linesP f)).1 = E at *
 generalize (fileP (linesP f)).2.1 = ln at *
 have HG := Lib.hid hrd
 clear hrd hb2 hfa
 obtain ⟨m0, hm0⟩ : ∃ m0, g.mac.length = m0 := ⟨_, rfl⟩
 obtain ⟨m1, hm1⟩ : ∃ m1, g.pho.length = m1 := ⟨_, rfl⟩
 obtain ⟨m2, hm2⟩ : ∃ m2, g.inf.length = m2 := ⟨_, rfl⟩
 obtain ⟨m3, hm3⟩ : ∃ m3, M.length = m3 := ⟨_, rfl⟩
 rw [hm0, hm1, hm2, hm3]
 have hb3 := below_new (Below.refl w2.heap.size w2) (.cells #[.slice G0 m0 d0, .slice G1 m1 d1, .slice G2 m2 d2, .slice G3 m3 d3] 27)
 have HB3 := Lib.hid (below_then HB2.out hb3)
 have HK3 := Lib.hid (HK2.out.below hb3 HK2.out.lt)
 have HK4 := Lib.hid (Blk.new w2 #[.slice G0 m0 d0, .slice G1 m1 d1, .slice G2 m2 d2, .slice G3 m3 d3] 27)
 have HS := Lib.hid (fSame_any (c0 := c0) (c1 := c1) (c2 := c2) (c3 := c3) (d0 := d0) (d1 := d1) (d2 := d2) (d3 := d3) f g L M (w2.alloc (.cells #[.slice G0 m0 d0, .slice G1 m1 d1, .slice G2 m2 d2, .slice G3 m3 d3] 27)) ⟨HF.out.rd.below HB3.out, HG.out.below hb3, HF.out.sz.szl, HSG.out, HF.out.e0, HF.out.e1, HF.out.e2, HF.out.e3, hm0, hm1, hm2, hm3⟩)
 clear hm0 hm1 hm2 hm3 hb3
 go_upto_region 2 with fail
 generalize w2.alloc (.cells #[.slice G0 m0 d0, .slice G1 m1 d1, .slice G2 m2 d2, .slice G3 m3 d3] 27) = w3 at *
 generalize w2.heap.size = k3 at *
 by_cases hE : E = 0
 ·subst hE
  have a0 := HK3.out.cell (j := 0) rfl
  have a1 := HK3.out.cell (j := 1) rfl
  have a2 := HK3.out.cell (j := 2) rfl
  have a3 := HK3.out.cell (j := 3) rfl
  have b0 := HK4.out.cell (j := 0) rfl
  have b1 := HK4.out.cell (j := 1) rfl
  have b2 := HK4.out.cell (j := 2) rfl
  have b3 := HK4.out.cell (j := 3) rfl
  cases hq : eqF f g with
  | false =>
    rw [hq] at HS HE
    clear hq
    go_wp2_with fail
    refine HS.out.mono ?_
    rintro e w4 ⟨rfl, hb4⟩
    have HB4 := Lib.hid (below_then HB3.out hb4)
    clear hb4
    go_wp2_with fail
    go_ret
    exact ⟨by rw [HE.out]; rfl, HB4.out⟩
  | true =>
    rw [hq] at HS HE
    clear hq
    go_wp2_with fail
    refine HS.out.mono ?_
    rintro e w4 ⟨rfl, hb4⟩
    have HB4 := Lib.hid (below_then HB3.out hb4)
    clear hb4
    go_wp2_with fail
    go_ret
    exact ⟨by rw [HE.out]; rfl, HB4.out⟩
 ·have HE2 : Hid (chkF f = E) := Lib.hid (by rw [HE.out, if_neg (fun h => hE h.1)])
  have p1 : (((E : Nat) : Int) == 0) = false := by simp; omega
  clear hE
  go_wp2_with fail
  go_ret
  exact ⟨by rw [HE2.out]; rfl, HB3.out⟩
end
section
variable {A0 A1 A2 A3 : Option Addr} {n0 n1 n2 n3 c0 c1 c2 c3 : Nat} (f : FileT) (L : List RSlot) (w : World) (h : FileIn A0 A1 A2 A3 n0 n1 n2 n3 c1 f L w) (mx : Int) (hmx : w.cell? ⟨1, 0, none⟩ = some (.int .i64 mx)) (h0 : 1 < w.heap.size)
include h hmx h0
end
end Go.Proofs.YtoandhhkmkgmaaaGreatDoor
namespace Go.Proofs.YtoandhhkmkgmaaaGreatDoor
open Go.RowKit

set_option maxRecDepth 100000 in
set_option maxHeartbeats 4000000 in
theorem sameRulesG_anyD {A1 A2 : Option Addr} {n1 n2 c1 c2 : Nat} (L1 L2 : List RSlot) (w : World) (h1 : RsRd A1 L1 w) (h2 : RsRd A2 L2 w) (hn1 : L1.length = n1) (hn2 : L2.length = n2) (hb1 : n1 ≤ 9223372036854775807) (hb2 : n2 ≤ 9223372036854775807) :
 Calls Tryz.prog 46 #[.slice A1 n1 c1, .slice A2 n2 c2] w fun e w' => e = .returned (.bool (eqL (rulesOf L1) (rulesOf L2))) ∧ ∃ q, w' = w.drewN q := by
 have H1 := Lib.hid h1
 have H2 := Lib.hid h2
 have N1 := Lib.hid hn1
 have N2 := Lib.hid hn2
 have hl1 : (rulesOf L1).length = n1 := by unfold rulesOf; simp [hn1]
 have hl2 : (rulesOf L2).length = n2 := by unfold rulesOf; simp [hn2]
 have M1 := Lib.hid hl1
 have M2 := Lib.hid hl2
 by_cases hne : n1 = n2
 ·subst hne
  have hz : ((n1 : Int) != (n1 : Int)) = false := by simp
  clear h1 h2 hn1 hn2 hl1 hl2
  go_enter Tryz.func46, Tryz.ntmps46
  go_wp2_with fail
  go_loopw [5, 13] (fun _ i wr => ∃ k : Nat, k ≤ n1 ∧ i = .int .i64 (k : Int) ∧ Hid (∃ q, wr = w.drewN q) ∧ Hid ((rulesOf L1).take k = (rulesOf L2).take k)) (fun _ i _ => n1 - (intOf i).toNat)
  case atStart => exact ⟨0, by omega, rfl, Lib.hid ⟨0, rfl⟩, Lib.hid rfl⟩
  case round =>
   obtain ⟨k, hk, rfl, HB, HT⟩ := hrel
   have HBL : Hid (Below w.heap.size w wr) := Lib.hid (by obtain ⟨q, h⟩ := HB.out; rw [h]; exact below_of_drewN _ _)
   by_cases hlt : k < n1
   ·obtain ⟨x, hx⟩ : ∃ x, L1[k]? = some x := ⟨_, List.getElem?_eq_getElem (by rw [N1.out]; exact hlt)⟩
    obtain ⟨y, hy⟩ : ∃ y, L2[k]? = some y := ⟨_, List.getElem?_eq_getElem (by rw [N2.out]; exact hlt)⟩
    have HXX := Lib.hid (rulesOf_atF hx)
    have HYY := Lib.hid (rulesOf_atF hy)
    have HX := Lib.hid ((H1.out.each x (List.mem_of_getElem? hx)).below HBL.out)
    have HY := Lib.hid ((H2.out.each y (List.mem_of_getElem? hy)).below HBL.out)
    obtain ⟨b1, o1, rfl, a1, a2⟩ := (H1.out.rd.below HBL.out).two hx
    obtain ⟨b2, o2, rfl, d1, d2⟩ := (H2.out.rd.below HBL.out).two hy
    obtain ⟨⟨X1, xc1⟩, ⟨X2, xc2⟩, r⟩ := x
    obtain ⟨⟨Y1, yc1⟩, ⟨Y2, yc2⟩, s⟩ := y
    simp only [] at HXX HYY
    have hcap : 2 * k = k * 2 := by omega
    rw [hcap] at a1 a2 d1 d2
    simp only [rsT, rsN] at a1 a2 d1 d2
    have CT := Lib.hid (fun n => sameTextsG_anyD (c1 := xc1) (c2 := yc1) r.1 s.1 (wr.drewN n) (HX.out.t.drewN n) (HY.out.t.drewN n) rfl rfl HX.out.tb HY.out.tb)
    have CN := Lib.hid (fun n => sameTextsG_anyD (c1 := xc2) (c2 := yc2) r.2 s.2 (wr.drewN n) (HX.out.n.drewN n) (HY.out.n.drewN n) rfl rfl HX.out.nb HY.out.nb)
    have HER : Hid (eqR r s = (eqL r.1 s.1 && eqL r.2 s.2)) := Lib.hid rfl
    clear hx hy hcap HX HY
    generalize r.1.length = u1 at *
    generalize r.2.length = u2 at *
    generalize s.1.length = u3 at *
    generalize s.2.length = u4 at *
    have k0 : (0 : Int) ≤ (k : Int) := by omega
    have k1 : (k : Int) < (n1 : Int) := by omega
    cases hT : eqL r.1 s.1 with
    | false =>
      rw [hT] at CT HER
      have HE := Lib.hid (eqL_at HXX.out HYY.out (fun e => by rw [(eqR_iff _ _).2 e] at HER; exact absurd HER.out (by simp)))
      clear hT HER CN
      go_wp2_with fail
      go_quiet ((go_at_call 45; (with_reducible exact Calls.quiet_of (CT.out _))))
      go_wp2_with fail
      go_ret
      exact ⟨by rw [HE.out]; rfl, by obtain ⟨q, h⟩ := HB.out; rw [h]; exact ⟨_, World.drewN_drewN _ _ _⟩⟩
    | true =>
      rw [hT] at CT HER
      cases hN : eqL r.2 s.2 with
      | false =>
        rw [hN] at CN HER
        have HE := Lib.hid (eqL_at HXX.out HYY.out (fun e => by rw [(eqR_iff _ _).2 e] at HER; exact absurd HER.out (by simp)))
        clear hT hN HER
        go_wp2_with fail
        go_quiet ((first | (go_at_call 45; (with_reducible exact Calls.quiet_of (CT.out _))) | (go_at_call 45; (with_reducible exact Calls.quiet_of (CN.out _)))))
        go_wp2_with fail
        go_ret
        exact ⟨by rw [HE.out]; rfl, by obtain ⟨q, h⟩ := HB.out; rw [h]; exact ⟨_, World.drewN_drewN _ _ _⟩⟩
      | true =>
        rw [hN] at CN HER
        have HE := Lib.hid ((eqR_iff _ _).1 HER.out)
        clear hT hN HER
        go_wp2_with fail
        go_quiet ((first | (go_at_call 45; (with_reducible exact Calls.quiet_of (CT.out _))) | (go_at_call 45; (with_reducible exact Calls.quiet_of (CN.out _)))))
        go_wp2_with fail
        go_roundw
        case rel => exact ⟨k + 1, by omega, by go_num, Lib.hid (by obtain ⟨q, h⟩ := HB.out; rw [h]; exact ⟨_, World.drewN_drewN _ _ _⟩), Lib.hid (take_step HXX.out HYY.out HE.out HT.out)⟩
        case measure => simp [intOf]; omega
   ·obtain rfl : k = n1 := by omega
    have HE := Lib.hid (eqL_take (by rw [M1.out]; exact Nat.le_refl _) (by rw [M2.out]; exact Nat.le_refl _) HT.out)
    go_wp2_with fail
    go_ret
    exact ⟨by rw [HE.out]; rfl, HB.out⟩
 ·have hz : ((n1 : Int) != (n2 : Int)) = true := by simp; omega
  have HE : Hid (eqL (rulesOf L1) (rulesOf L2) = false) := Lib.hid (eqL_len (by rw [hl1, hl2]; exact hne))
  clear h1 h2 hn1 hn2 hne hl1 hl2
  go_enter Tryz.func46, Tryz.ntmps46
  go_wp2_with fail
  go_ret
  exact ⟨by rw [HE.out]; rfl, 0, rfl⟩
theorem sameRulesG_any {A1 A2 : Option Addr} {n1 n2 c1 c2 : Nat} (L1 L2 : List RSlot) (w : World) (h1 : RsRd A1 L1 w) (h2 : RsRd A2 L2 w) (hn1 : L1.length = n1) (hn2 : L2.length = n2) (hb1 : n1 ≤ 9223372036854775807) (hb2 : n2 ≤ 9223372036854775807) :
 Calls Tryz.prog 46 #[.slice A1 n1 c1, .slice A2 n2 c2] w fun e w' => e = .returned (.bool (eqL (rulesOf L1) (rulesOf L2))) ∧ Below w.heap.size w w' :=
 (sameRulesG_anyD L1 L2 w h1 h2 hn1 hn2 hb1 hb2).mono fun e w' ⟨h1, q, h2⟩ => ⟨h1, by rw [h2]; exact below_of_drewN _ _⟩
section
variable {A0 A1 A2 A3 B0 B1 B2 B3 : Option Addr} {n0 n1 n2 n3 c0 c1 c2 c3 m0 m1 m2 m3 d0 d1 d2 d3 : Nat} (f g : FileT) (L M : List RSlot) (w : World) (h : TwoF A0 A1 A2 A3 B0 B1 B2 B3 n0 n1 n2 n3 m0 m1 m2 m3 f g L M w)
include h
set_option maxRecDepth 100000 in
set_option maxHeartbeats 8000000 in
theorem rSameFile_any : Calls Tryz.prog 11 #[.agg #[.slice A0 n0 c0, .slice A1 n1 c1, .slice A2 n2 c2, .slice A3 n3 c3], .agg #[.slice B0 m0 d0, .slice B1 m1 d1, .slice B2 m2 d2, .slice B3 m3 d3]] w fun e w' => e = .returned (.bool (eqF f g)) ∧ Below w.heap.size w w' := by
 have H := Lib.hid h
 have CP := Lib.hid (fun W (hW : Below w.heap.size w W) => sameTextsG_any (c1 := c1) (c2 := d1) f.pho g.pho W (h.a.pho.below hW) (h.b.pho.below hW) h.e1 h.g1 (by rw [← h.e1]; exact h.la.pho) (by rw [← h.g1]; exact h.lb.pho))
 have CR := Lib.hid (fun W (hW : Below w.heap.size w W) => sameRulesG_any (c1 := c3) (c2 := d3) L M W (h.a.rul.below hW) (h.b.rul.below hW) h.e3 h.g3 (by rw [← h.e3, ← h.a.len]; exact h.la.rul) (by rw [← h.g3, ← h.b.len]; exact h.lb.rul))
 have HER : Hid (eqF f g = (eqL f.mac g.mac && eqL f.pho g.pho && eqL f.inf g.inf && eqL (rulesOf L) (rulesOf M))) := Lib.hid (by unfold eqF; rw [h.a.eq, h.b.eq])
 have HNM : Hid (n0 ≠ m0 → eqL f.mac g.mac = false) := Lib.hid (fun hn => eqL_len (by rw [h.e0, h.g0]; exact hn))
 have HNI : Hid (n2 ≠ m2 → eqL f.inf g.inf = false) := Lib.hid (fun hn => eqL_len (by rw [h.e2, h.g2]; exact hn))
 have E0 := Lib.hid h.e0
 have E2 := Lib.hid h.e2
 have G0 := Lib.hid h.g0
 have G2 := Lib.hid h.g2
 have bb0 : n0 ≤ 9223372036854775807 := by rw [← h.e0]; exact h.la.mac
 have bb2 : n2 ≤ 9223372036854775807 := by rw [← h.e2]; exact h.la.inf
 have bb1 : n1 ≤ 9223372036854775807 := by rw [← h.e1]; exact h.la.pho
 have HB0 := Lib.hid (below_new (Below.refl w.heap.size w) (.cells #[.slice A0 n0 c0, .slice A1 n1 c1, .slice A2 n2 c2, .slice A3 n3 c3] 27))
 have HK0 := Lib.hid (Blk.new w #[.slice A0 n0 c0, .slice A1 n1 c1, .slice A2 n2 c2, .slice A3 n3 c3] 27)
 have HSZ : Hid ((w.alloc (.cells #[.slice A0 n0 c0, .slice A1 n1 c1, .slice A2 n2 c2, .slice A3 n3 c3] 27)).heap.size = w.heap.size + 1) := Lib.hid (by simp)
 have hb1 := below_new (Below.refl (w.alloc (.cells #[.slice A0 n0 c0, .slice A1 n1 c1, .slice A2 n2 c2, .slice A3 n3 c3] 27)).heap.size (w.alloc (.cells #[.slice A0 n0 c0, .slice A1 n1 c1, .slice A2 n2 c2, .slice A3 n3 c3] 27))) (.cells #[.slice B0 m0 d0, .slice B1 m1 d1, .slice B2 m2 d2, .slice B3 m3 d3] 27)
 have HB1 := Lib.hid (below_then HB0.out hb1)
 have HK1 := Lib.hid (Blk.new (w.alloc (.cells #[.slice A0 n0 c0, .slice A1 n1 c1, .slice A2 n2 c2, .slice A3 n3 c3] 27)) #[.slice B0 m0 d0, .slice B1 m1 d1, .slice B2 m2 d2, .slice B3 m3 d3] 27)
 have HK2 := Lib.hid (HK0.out.below hb1 HK0.out.lt)
 rw [HSZ.out] at HK1
 clear hb1 h
 go_enter Tryz.func11, Tryz.ntmps11
 go_upto_region 1 with fail
 try rw [HSZ.out]
 generalize (w.alloc (.cells #[.slice A0 n0 c0, .slice A1 n1 c1, .slice A2 n2 c2, .slice A3 n3 c3] 27)).alloc (.cells #[.slice B0 m0 d0, .slice B1 m1 d1, .slice B2 m2 d2, .slice B3 m3 d3] 27) = w2 at *
 have a0 := HK2.out.cell (j := 0) rfl
 have a1 := HK2.out.cell (j := 1) rfl
 have a2 := HK2.out.cell (j := 2) rfl
 have b0 := HK1.out.cell (j := 0) rfl
 have b1 := HK1.out.cell (j := 1) rfl
 have b2 := HK1.out.cell (j := 2) rfl
 by_cases hn0 : n0 = m0
 case neg =>
  have hz : ((n0 : Int) != (m0 : Int)) = true := by simp; omega
  have HE := Lib.hid (HNM.out hn0)
  clear hn0
  go_wp2_with fail
  go_ret
  exact ⟨by rw [HER.out, HE.out]; simp, HB1.out⟩
 subst hn0
 have hz0 : ((n0 : Int) != (n0 : Int)) = false := by simp
 by_cases hn2 : n2 = m2
 case neg =>
  have hz : ((n2 : Int) != (m2 : Int)) = true := by simp; omega
  have HE := Lib.hid (HNI.out hn2)
  clear hn2
  go_wp2_with fail
  go_ret
  exact ⟨by rw [HER.out, HE.out]; simp, HB1.out⟩
 subst hn2
 have hz2 : ((n2 : Int) != (n2 : Int)) = false := by simp
 go_wp2_with fail
 refine (CP.out _ HB1.out).mono ?_
 rintro e w3 ⟨rfl, hb⟩
 have HB3 := Lib.hid (below_then HB1.out hb)
 have HKA3 := Lib.hid (HK2.out.below hb HK2.out.lt)
 have HKC3 := Lib.hid (HK1.out.below hb HK1.out.lt)
 clear hb a0 a1 a2 b0 b1 b2
 have a3 := HKA3.out.cell (j := 3) rfl
 have b3 := HKC3.out.cell (j := 3) rfl
 cases hP : eqL f.pho g.pho with
 | false =>
   rw [hP] at HER
   clear hP
   go_wp2_with fail
   go_ret
   exact ⟨by rw [HER.out]; simp, HB3.out⟩
 | true =>
 rw [hP] at HER
 clear hP
 go_wp2_with fail
 refine (CR.out _ HB3.out).mono ?_
 rintro e w4 ⟨rfl, hb⟩
 have HB4 := Lib.hid (below_then HB3.out hb)
 have HKA4 := Lib.hid (HKA3.out.below hb HKA3.out.lt)
 have HKC4 := Lib.hid (HKC3.out.below hb HKC3.out.lt)
 clear hb a3 b3
 have a0 := HKA4.out.cell (j := 0) rfl
 have a2 := HKA4.out.cell (j := 2) rfl
 have b0 := HKC4.out.cell (j := 0) rfl
 have b2 := HKC4.out.cell (j := 2) rfl
 cases hR : eqL (rulesOf L) (rulesOf M) with
 | false =>
   rw [hR] at HER
   clear hR
   go_wp2_with fail
   go_ret
   exact ⟨by rw [HER.out]; simp, HB4.out⟩
 | true =>
 rw [hR] at HER
 clear hR
 have HRA0 := Lib.hid (H.out.a.mac.below HB4.out)
 have HRB0 := Lib.hid (H.out.b.mac.below HB4.out)
 have HRA2 := Lib.hid (H.out.a.inf.below HB4.out)
 have HRB2 := Lib.hid (H.out.b.inf.below HB4.out)
 go_wp2_with fail
 go_loopw [5, 42] (fun _ i wr => ∃ k q : Nat, k ≤ n0 ∧ i = .int .i64 (k : Int) ∧ wr = w4.drewN q ∧ Hid (f.mac.take k = g.mac.take k)) (fun _ i _ => n0 - (intOf i).toNat)
 case atStart => exact ⟨0, 0, by omega, rfl, rfl, Lib.hid rfl⟩
 case round =>
  obtain ⟨k, q, hk, rfl, rfl, HT⟩ := hrel
  by_cases hlt : k < n0
  ·obtain ⟨x, hx⟩ : ∃ x, f.mac[k]? = some x := ⟨_, List.getElem?_eq_getElem (by rw [E0.out]; exact hlt)⟩
   obtain ⟨y, hy⟩ : ∃ y, g.mac[k]? = some y := ⟨_, List.getElem?_eq_getElem (by rw [G0.out]; exact hlt)⟩
   obtain ⟨bl1, o1, rfl, e1, e3⟩ := HRA0.out.macs hx
   obtain ⟨bl2, o2, rfl, e2, e4⟩ := HRB0.out.macs hy
   have HX := Lib.hid hx
   have HY := Lib.hid hy
   obtain ⟨xa, xb⟩ := x
   obtain ⟨ya, yb⟩ := y
   dsimp only at e1 e2 e3 e4
   unfold sv at e1 e2 e3 e4
   have hq := eq_sv xa ya
   have hp := eq_sv xb yb
   generalize (⟨xa.toArray⟩ : ByteArray) = bxa at e1 hq
   generalize (⟨ya.toArray⟩ : ByteArray) = bya at e2 hq
   generalize (⟨xb.toArray⟩ : ByteArray) = bxb at e3 hp
   generalize (⟨yb.toArray⟩ : ByteArray) = byb at e4 hp
   have k0 : (0 : Int) ≤ (k : Int) := by omega
   have k1 : (k : Int) < (n0 : Int) := by omega
   clear hx hy
   by_cases he : xa = ya
   ·have g1 : (bxa.toList == bya.toList) = true := by rw [hq]; simp [he]
    by_cases he2 : xb = yb
    ·have g2 : (bxb.toList == byb.toList) = true := by rw [hp]; simp [he2]
     have HE : Hid ((xa, xb) = (ya, yb)) := Lib.hid (by rw [he, he2])
     clear he he2 hq hp
     go_wp2_with fail
     go_quiet (fail)
     go_wp2_with fail
     go_roundw
     case rel => exact ⟨k + 1, _, by omega, by go_num, rfl, Lib.hid (take_step HX.out HY.out HE.out HT.out)⟩
     case measure => simp [intOf]; omega
    ·have g2 : (bxb.toList == byb.toList) = false := by rw [hp]; simp [he2]
     have HE := Lib.hid (eqL_at HX.out HY.out (fun e => he2 (by injection e)))
     clear he he2 hq hp
     go_wp2_with fail
     go_quiet (fail)
     go_wp2_with fail
     go_ret
     exact ⟨by rw [HER.out, HE.out]; simp, below_drewN (below_drewN HB4.out _) _⟩
   ·have g1 : (bxa.toList == bya.toList) = false := by rw [hq]; simp [he]
    have HE := Lib.hid (eqL_at HX.out HY.out (fun e => he (by injection e)))
    clear he hq hp
    go_wp2_with fail
    go_quiet (fail)
    go_wp2_with fail
    go_ret
    exact ⟨by rw [HER.out, HE.out]; simp, below_drewN (below_drewN HB4.out _) _⟩
  ·obtain rfl : k = n0 := by omega
   have HE0 := Lib.hid (eqL_take (by rw [E0.out]; exact Nat.le_refl _) (by rw [G0.out]; exact Nat.le_refl _) HT.out)
   rw [HE0.out] at HER
   have HB5 := Lib.hid (below_drewN HB4.out q)
   have HRA3 := Lib.hid (HRA2.out.below (below_of_drewN w4 q))
   have HRB3 := Lib.hid (HRB2.out.below (below_of_drewN w4 q))
   have HKA5 := Lib.hid (HKA4.out.below (below_of_drewN w4 q) HKA4.out.lt)
   have HKC5 := Lib.hid (HKC4.out.below (below_of_drewN w4 q) HKC4.out.lt)
   clear a0 a2 b0 b2 HRA2 HRB2 hlt hk
   generalize w4.drewN q = w5 at *
   have a2 := HKA5.out.cell (j := 2) rfl
   have b2 := HKC5.out.cell (j := 2) rfl
   go_wp2_with fail
   go_loopw [6, 60] (fun _ i wr => ∃ k q : Nat, k ≤ n2 ∧ i = .int .i64 (k : Int) ∧ wr = w5.drewN q ∧ Hid (f.inf.take k = g.inf.take k)) (fun _ i _ => n2 - (intOf i).toNat)
   case atStart => exact ⟨0, 0, by omega, rfl, rfl, Lib.hid rfl⟩
   case round =>
    obtain ⟨k, q, hk, rfl, rfl, HT⟩ := hrel
    by_cases hlt : k < n2
    ·obtain ⟨x, hx⟩ : ∃ x, f.inf[k]? = some x := ⟨_, List.getElem?_eq_getElem (by rw [E2.out]; exact hlt)⟩
     obtain ⟨y, hy⟩ : ∃ y, g.inf[k]? = some y := ⟨_, List.getElem?_eq_getElem (by rw [G2.out]; exact hlt)⟩
     obtain ⟨bl1, o1, rfl, e1, e3⟩ := HRA3.out.macs hx
     obtain ⟨bl2, o2, rfl, e2, e4⟩ := HRB3.out.macs hy
     have HX := Lib.hid hx
     have HY := Lib.hid hy
     obtain ⟨xa, xb⟩ := x
     obtain ⟨ya, yb⟩ := y
     dsimp only at e1 e2 e3 e4
     unfold sv at e1 e2 e3 e4
     have hq := eq_sv xa ya
     have hp := eq_sv xb yb
     generalize (⟨xa.toArray⟩ : ByteArray) = bxa at e1 hq
     generalize (⟨ya.toArray⟩ : ByteArray) = bya at e2 hq
     generalize (⟨xb.toArray⟩ : ByteArray) = bxb at e3 hp
     generalize (⟨yb.toArray⟩ : ByteArray) = byb at e4 hp
     have k0 : (0 : Int) ≤ (k : Int) := by omega
     have k1 : (k : Int) < (n2 : Int) := by omega
     clear hx hy
     by_cases he : xa = ya
     ·have g1 : (bxa.toList == bya.toList) = true := by rw [hq]; simp [he]
      by_cases he2 : xb = yb
      ·have g2 : (bxb.toList == byb.toList) = true := by rw [hp]; simp [he2]
       have HE : Hid ((xa, xb) = (ya, yb)) := Lib.hid (by rw [he, he2])
       clear he he2 hq hp
       go_wp2_with fail
       go_quiet (fail)
       go_wp2_with fail
       go_roundw
       case rel => exact ⟨k + 1, _, by omega, by go_num, rfl, Lib.hid (take_step HX.out HY.out HE.out HT.out)⟩
       case measure => simp [intOf]; omega
      ·have g2 : (bxb.toList == byb.toList) = false := by rw [hp]; simp [he2]
       have HE := Lib.hid (eqL_at HX.out HY.out (fun e => he2 (by injection e)))
       clear he he2 hq hp
       go_wp2_with fail
       go_quiet (fail)
       go_wp2_with fail
       go_ret
       exact ⟨by rw [HER.out, HE.out]; simp, below_drewN (below_drewN HB5.out _) _⟩
     ·have g1 : (bxa.toList == bya.toList) = false := by rw [hq]; simp [he]
      have HE := Lib.hid (eqL_at HX.out HY.out (fun e => he (by injection e)))
      clear he hq hp
      go_wp2_with fail
      go_quiet (fail)
      go_wp2_with fail
      go_ret
      exact ⟨by rw [HER.out, HE.out]; simp, below_drewN (below_drewN HB5.out _) _⟩
    ·obtain rfl : k = n2 := by omega
     have HE2 := Lib.hid (eqL_take (by rw [E2.out]; exact Nat.le_refl _) (by rw [G2.out]; exact Nat.le_refl _) HT.out)
     rw [HE2.out] at HER
     go_wp2_with fail
     go_ret
     exact ⟨by rw [HER.out]; rfl, below_drewN HB5.out _⟩
end
end Go.Proofs.YtoandhhkmkgmaaaGreatDoor
