/- Some of the proof's texts, merged; each one's own words stand ahead of it. -/
import Derived.Test.YtoandhhkmkgmaaaGreatDoorMg42
import Derived.Test.YtoandhhkmkgmaaaGreatDoorMg43
import Derived.Test.YtoandhhkmkgmaaaGreatDoorMg39
import Derived.Test.YtoandhhkmkgmaaaGreatDoorMg16
/- file.Parse in plain Lean; a rule that is parsed, in memory; a file that is read. -/
namespace Go.Proofs.YtoandhhkmkgmaaaGreatDoor
open Go.RowKit

/-! ### Plain -/
def macrosP (l : List (List UInt8)) : List MacT := l.filterMap definedP
/-- Lines, one by one: error, the line's number, the file. -/
noncomputable def parseFrom (M : List MacT) : Nat → FileT → List (List UInt8) → Nat × Nat × FileT
  | _, f, [] => (0, 0, f)
  | i, f, s :: l =>
    if (definedP s).isSome = true then parseFrom M (i + 1) f l
    else if expE M s ≠ 0 then (expE M s, i + 1, emptyF)
    else if (parseR (expT M s)).1 ≠ 0 then ((parseR (expT M s)).1, i + 1, emptyF)
    else if (addP f (parseR (expT M s)).2).1 ≠ 0 then ((addP f (parseR (expT M s)).2).1, i + 1, emptyF)
    else parseFrom M (i + 1) (addP f (parseR (expT M s)).2).2 l
/-- file.Parse: error, the line's number, the file. -/
noncomputable def fileP (l : List (List UInt8)) : Nat × Nat × FileT :=
  if 200 < l.length then (2, 0, emptyF) else if flatsE (macrosP l) ≠ 0 then (flatsE (macrosP l), 0, emptyF) else parseFrom (macrosP l) 0 { emptyF with mac := macrosP l } l
theorem definedP_len {s : List UInt8} {m : MacT} (h : definedP s = some m) : m.1.length ≤ s.length ∧ m.2.length ≤ s.length := by
  unfold definedP at h
  split at h
  · injection h with h
    subst h
    have h1 := trimBL_len (s.take (s.idxOf 61))
    have h2 := trimBL_len (s.drop (s.idxOf 61 + 1))
    rw [List.length_take] at h1
    rw [List.length_drop] at h2
    exact ⟨by dsimp only; omega, by dsimp only; omega⟩
  · cases h
theorem parseR_ok {s : List UInt8} (h : (parseR s).1 = 0) : rlE (parseR s).2 = 0 ∧ (parseR s).2 = halves s := by
  unfold parseR at h ⊢
  split
  · rename_i h1
    rw [if_pos h1] at h
    split
    · rename_i h2
      exact ⟨h2, rfl⟩
    · rename_i h2
      rw [if_neg h2] at h
      exact absurd h h2
  · rename_i h1
    rw [if_neg h1] at h
    cases h
theorem rlE_lens {r : RuleT} (h : rlE r = 0) : 0 < r.1.length ∧ r.1.length ≤ 20 ∧ r.2.length ≤ 20 := by
  by_cases h1 : 20 < r.1.length ∨ 20 < r.2.length
  · rw [rlE_2 h1] at h; cases h
  · by_cases h2 : r.1.length = 0
    · unfold rlE at h
      rw [if_neg h1, if_pos (.inl h2)] at h
      cases h
    · omega
theorem halves_each (s : List UInt8) : (∀ y ∈ (halves s).1, y.length ≤ s.length) ∧ (∀ y ∈ (halves s).2, y.length ≤ s.length) := by
  unfold halves
  refine ⟨fun y hy => ?_, fun y hy => ?_⟩
  · have := words_each _ y hy
    rw [List.length_take] at this
    omega
  · have := words_each _ y hy
    rw [List.length_drop] at this
    omega

/-! ### In memory -/
theorem fresh_far {w : World} {x : RSlot} {ob : Option Nat} (h1 : FreshA w x.1.1) (h2 : FreshA w x.2.1.1) (hob : ∀ g, ob = some g → g < w.heap.size) : farS x ob :=
  ⟨fun g off hA _ e => by have := h1 g off none hA; have := hob g e.symm; omega, fun g off hA _ e => by have := h2 g off none hA; have := hob g e.symm; omega⟩
/-- A parsed rule, as it lies. -/
theorem parsed_in {s : List UInt8} {w w' : World} {e : Ending} (hs : s.length ≤ 2001) (h0 : (parseR s).1 = 0) (h : PaPostG s w e w') :
    ∃ x : RSlot, x.2.2 = (parseR s).2 ∧ e = .returned (.tuple #[.agg #[rsT x, rsN x], .int .i64 0]) ∧ RsIn x w' ∧ Below w.heap.size w w' ∧ FreshA w x.1.1 ∧ FreshA w x.2.1.1 ∧ x.2.2.2.length ≤ 20 ∧ ∃ t0, x.2.2.1[0]? = some t0 ∧ t0.length ≤ 2001 := by
  obtain ⟨A1, c1, A2, c2, h1, h2, h3, h4, h5, h6, h7, h8⟩ := h
  obtain ⟨g1, g2⟩ := parseR_ok h0
  obtain ⟨g3, g4, g5⟩ := rlE_lens g1
  obtain ⟨e1, e2⟩ := halves_each s
  rw [← g2] at e1 e2
  refine ⟨((A1, c1), (A2, c2), (parseR s).2), rfl, by rw [h1, h0]; rfl, ⟨h2, h3, rfl, rfl, by dsimp only; omega, by dsimp only; omega, h7, h8, fun y hy => by have := e1 y hy; omega, fun y hy => by have := e2 y hy; omega⟩, h4, h5, h6, g5, ?_⟩
  refine ⟨(parseR s).2.1[0]'g3, List.getElem?_eq_getElem g3, ?_⟩
  have := e1 _ (List.getElem_mem g3)
  omega
/-- A file that is read: its slices are the call's own. -/
structure FileAt (lo : Nat) (f : FileT) (L : List RSlot) (v0 v1 v2 v3 : Value) (w : World) : Prop where
  own : ∀ r ∈ rowsF f L v0 v1 v2 v3, w.ownsRow lo r.t r.z r.v r.n r.xs
  each : ∀ x ∈ L, RsIn x w
  rul : rulesOf L = f.rul
theorem RowsAt.file {lo B : Nat} {T : TypeId} {f : FileT} {L : List RSlot} {v0 v1 v2 v3 : Value} {w : World} (h : RowsAt lo B T (rowsF f L v0 v1 v2 v3) L w) (hL : rulesOf L = f.rul) : FileAt lo f L v0 v1 v2 v3 w := ⟨h.own, h.each, hL⟩
theorem FileAt.none (lo : Nat) (w : World) : FileAt lo emptyF [] (.slice none 0 0) (.slice none 0 0) (.slice none 0 0) (.slice none 0 0) w := by
  refine ⟨fun r hr => ?_, (fun x hx => by cases hx), rfl⟩
  unfold rowsF at hr
  simp only [List.mem_cons, List.not_mem_nil, or_false] at hr
  rcases hr with rfl | rfl | rfl | rfl <;> exact World.ownsRow_nil _ _ _ _
theorem FileAt.below {lo : Nat} {f : FileT} {L : List RSlot} {v0 v1 v2 v3 : Value} {w w' : World} (h : FileAt lo f L v0 v1 v2 v3 w) (hb : Below w.heap.size w w') : FileAt lo f L v0 v1 v2 v3 w' :=
  ⟨fun r hr => own_belowK (h.own r hr) hb, fun x hx => (h.each x hx).below hb, h.rul⟩
def ParsePost (l : List (List UInt8)) (w : World) (e : Ending) (w' : World) : Prop :=
  Below w.heap.size w w' ∧ ∃ (L : List RSlot) (v0 v1 v2 v3 : Value), e = .returned (.tuple #[.agg #[v0, v1, v2, v3], .int .i64 (((fileP l).2.1 : Nat) : Int), .int .i64 (((fileP l).1 : Nat) : Int)]) ∧ FileAt w.heap.size (fileP l).2.2 L v0 v1 v2 v3 w'
end Go.Proofs.YtoandhhkmkgmaaaGreatDoor
/- file.Parse: the walk. -/
namespace Go.Proofs.YtoandhhkmkgmaaaGreatDoor
open Go.RowKit

theorem ButLo.toBelow {k lo B : Nat} {w W1 W' : World} (h : Below k w W1) (hb : ButLo lo B W1 W') (hk : k ≤ B) (hB : B < lo) : Below k w W' :=
  h.trans ⟨hb.os, hb.tape, hb.output, hb.size, fun j hj => hb.block j (by omega) (by omega)⟩
theorem RowsAt.start (W0 : World) : RowsAt (W0.heap.size + 1) W0.heap.size 27 (rowsF emptyF [] (.slice none 0 0) (.slice none 0 0) (.slice none 0 0) (.slice none 0 0)) [] (W0.alloc (.cells #[.slice none 0 0, .slice none 0 0, .slice none 0 0, .slice none 0 0] 27)) := by
  have hv : ∀ r ∈ rowsF emptyF [] (.slice none 0 0) (.slice none 0 0) (.slice none 0 0) (.slice none 0 0), r.v = .slice none 0 0 := fun r hr => by
    unfold rowsF at hr
    simp only [List.mem_cons, List.not_mem_nil, or_false] at hr
    rcases hr with rfl | rfl | rfl | rfl <;> rfl
  refine ⟨by omega, Blk.new W0 _ _, (FileAt.none _ _).own, fun i j r s g hr hs hij hg => ?_, (fun x hx => by cases hx), (fun x hx => by cases hx), (fun x hx => by cases hx), by simp⟩
  rw [hv r (List.mem_of_getElem? hr)] at hg
  cases hg
theorem rowsF_mac {f : FileT} {L : List RSlot} {v1 v2 v3 u1 u2 : Value} {A : Option Addr} {n c g c' : Nat} {p : MacT} (hn : f.mac.length = n) (h1 : sv p.1 = u1) (h2 : sv p.2 = u2) :
    (rowsF f L (.slice A n c) v1 v2 v3).set 0 ⟨71, 2, .slice (some ⟨g, 0, none⟩) (n + 1) c', n + 1, macV f.mac ++ [u1, u2]⟩ = rowsF { f with mac := f.mac ++ [p] } L (.slice (some ⟨g, 0, none⟩) (n + 1) c') v1 v2 v3 := by
  subst h1 h2
  unfold rowsF macV
  simp [hn]
theorem macrosP_snoc {l : List (List UInt8)} {j : Nat} {s : List UInt8} (h : l[j]? = some s) : macrosP (l.take (j + 1)) = macrosP (l.take j) ++ (definedP s).toList := by
  unfold macrosP
  rw [List.take_add_one, h, List.filterMap_append]
  cases hd : definedP s <;> simp [hd]
theorem macrosP_len (l : List (List UInt8)) : (macrosP l).length ≤ l.length := by
  unfold macrosP
  exact List.length_filterMap_le _ _
/-- Four cells of a block are stored. -/
def put4P (w : World) (b : Nat) (v0 v1 v2 v3 : Value) : World := (((w.setCell ⟨b, 0, none⟩ v0).setCell ⟨b, 1, none⟩ v1).setCell ⟨b, 2, none⟩ v2).setCell ⟨b, 3, none⟩ v3
theorem Blk.put4P {w : World} {b : Nat} {t : TypeId} {x0 x1 x2 x3 : Value} (h : Blk w b t [x0, x1, x2, x3]) (v0 v1 v2 v3 : Value) : Blk (put4P w b v0 v1 v2 v3) b t [v0, v1, v2, v3] := (((h.same 0 v0).same 1 v1).same 2 v2).same 3 v3
theorem below_put4P {B b : Nat} {a w : World} (h : Below B a w) (hb : B ≤ b) (v0 v1 v2 v3 : Value) : Below B a (put4P w b v0 v1 v2 v3) := (((h.setCell (p := ⟨b, 0, none⟩) hb v0).setCell (p := ⟨b, 1, none⟩) hb v1).setCell (p := ⟨b, 2, none⟩) hb v2).setCell (p := ⟨b, 3, none⟩) hb v3
theorem own_baseF {w : World} {B B' n z : Nat} {e : TypeId} {v : Value} {xs : List Value} (h : w.ownsRow B e z v n xs) (hb : B' ≤ B) : w.ownsRow B' e z v n xs := by
  obtain ⟨h1, h | ⟨g, cap, cur, hv, hg, hr⟩⟩ := h
  · exact ⟨h1, .inl h⟩
  · exact ⟨h1, .inr ⟨g, cap, cur, hv, Nat.le_trans hb hg, hr⟩⟩
theorem FileAt.put {lo B b b' : Nat} {T : TypeId} {f : FileT} {L : List RSlot} {v0 v1 v2 v3 : Value} {w : World} (h : RowsAt lo B T (rowsF f L v0 v1 v2 v3) L w) (hL : rulesOf L = f.rul) (hb : b < lo) (hf : ∀ x ∈ L, farS x (some b)) (hb' : b' ≤ lo) (u0 u1 u2 u3 : Value) : FileAt b' f L v0 v1 v2 v3 (put4P w b u0 u1 u2 u3) :=
  ⟨fun r hr => own_baseF (own_setB (own_setB (own_setB (own_setB (h.own r hr) hb u0) hb u1) hb u2) hb u3) hb',
    fun x hx => RsIn.setB u3 (RsIn.setB u2 (RsIn.setB u1 (RsIn.setB u0 (h.each x hx) (hf x hx)) (hf x hx)) (hf x hx)) (hf x hx), hL⟩
theorem addP_mac (f : FileT) (r : RuleT) : (addP f r).2.mac = f.mac := by
  unfold addP
  repeat' split
  all_goals first | rfl | (dsimp only; split <;> rfl)
theorem addP_keeps {f : FileT} {r : RuleT} {q : Nat} (h : (addP f r).1 = 0) (h1 : f.pho.length ≤ 20) (h2 : f.rul.length ≤ 100) (h3 : f.inf.length ≤ q) : (addP f r).2.pho.length ≤ 20 ∧ (addP f r).2.rul.length ≤ 100 ∧ (addP f r).2.inf.length ≤ q + 1 := by
  by_cases hph : phonyW ∈ r.1
  · by_cases hl : 1 < r.1.length
    · rw [addP_one hph hl] at h; cases h
    · rw [addP_ph hph hl] at h ⊢
      by_cases h20 : 20 < (addAllO f.pho r.2).length
      · dsimp only at h; rw [if_pos h20] at h; cases h
      · exact ⟨by dsimp only; omega, h2, by dsimp only; omega⟩
  · by_cases hc : ∃ p, pairP (r.1.headD []) = some p ∧ (r.1.length = 1 ∧ r.2.length = 0)
    · obtain ⟨p, hp, hl⟩ := hc
      rw [addP_inf hph hp hl]
      dsimp only
      split
      · exact ⟨h1, h2, by omega⟩
      · exact ⟨h1, h2, by simp; omega⟩
    · rw [addP_rule hph (by
        cases hp : pairP (r.1.headD []) with
        | none => exact .inl rfl
        | some p => exact .inr (fun hl => hc ⟨p, hp, hl⟩))] at h ⊢
      by_cases h100 : 100 < f.rul.length + 1
      · dsimp only at h; rw [if_pos h100] at h; cases h
      · exact ⟨h1, by simp; omega, by dsimp only; omega⟩
theorem Blk.butLo {w w' : World} {b lo B : Nat} {t : TypeId} {vs : List Value} (h : Blk w b t vs) (hb : ButLo lo B w w') (h1 : b < lo) (h2 : b ≠ B) : Blk w' b t vs := by
  unfold Blk
  rw [hb.block b h1 h2]
  exact h
theorem fileP_flat {l : List (List UInt8)} (h1 : ¬ 200 < l.length) (h2 : flatsE (macrosP l) ≠ 0) : fileP l = (flatsE (macrosP l), 0, emptyF) := by unfold fileP; rw [if_neg h1, if_pos h2]
theorem fileP_from {l : List (List UInt8)} (h1 : ¬ 200 < l.length) (h2 : flatsE (macrosP l) = 0) : fileP l = parseFrom (macrosP l) 0 { emptyF with mac := macrosP l } l := by unfold fileP; rw [if_neg h1, if_neg (fun e => e h2)]
theorem fileP_big {l : List (List UInt8)} (h : 200 < l.length) : fileP l = (2, 0, emptyF) := if_pos h
set_option maxRecDepth 100000 in
set_option maxHeartbeats 8000000 in
theorem fParse_any {A : Option Addr} {n c : Nat} (l : List (List UInt8)) (w : World) (hr : Rd w A (l.map sv)) (hn : l.length = n) (hs : ∀ s ∈ l, s.length ≤ 1048640) (mx : Int) (hmx : w.cell? ⟨1, 0, none⟩ = some (.int .i64 mx)) (h0 : 1 < w.heap.size) :
    Calls Tryz.prog 9 #[.slice A n c] w (ParsePost l w) := by
  have HR := Lib.hid hr
  have HN := Lib.hid hn
  have HS := Lib.hid hs
  have HMX := Lib.hid (fun W' (hb : Below w.heap.size w W') => cell_belowF hmx h0 hb)
  have HG0 := Lib.hid h0
  have HB0 := Lib.hid (below_new (Below.refl w.heap.size w) (.cells #[.slice none 0 0, .slice none 0 0, .slice none 0 0, .slice none 0 0] 27))
  have HK0 := Lib.hid (Blk.new w #[.slice none 0 0, .slice none 0 0, .slice none 0 0, .slice none 0 0] 27)
  have HSZ : Hid ((w.alloc (.cells #[.slice none 0 0, .slice none 0 0, .slice none 0 0, .slice none 0 0] 27)).heap.size = w.heap.size + 1) := Lib.hid (by simp)
  clear hr hn hs hmx h0
  go_enter Tryz.func9, Tryz.ntmps9
  go_upto_region 1 with fail
  generalize w.alloc (.cells #[.slice none 0 0, .slice none 0 0, .slice none 0 0, .slice none 0 0] 27) = w0 at *
  generalize hb : w.heap.size = b at *
  have HBB := Lib.hid hb
  clear hb
  have c0 := HK0.out.cell (j := 0) rfl
  have c1 := HK0.out.cell (j := 1) rfl
  have c2 := HK0.out.cell (j := 2) rfl
  have c3 := HK0.out.cell (j := 3) rfl
  have f0 := HK0.out.free 0
  have f1 := HK0.out.free 1
  have f2 := HK0.out.free 2
  have f3 := HK0.out.free 3
  by_cases h200 : 200 < n
  · have q1 : decide ((200 : Int) < (n : Int)) = true := by simp; omega
    have HE := Lib.hid (fileP_big (l := l) (by rw [HN.out]; exact h200))
    clear h200
    go_wp2_with fail
    have RZ := Lib.hid (HK0.out.put4P (.slice none 0 0) (.slice none 0 0) (.slice none 0 0) (.slice none 0 0))
    have BZ := Lib.hid (below_put4P HB0.out (Nat.le_refl _) (.slice none 0 0) (.slice none 0 0) (.slice none 0 0) (.slice none 0 0))
    show bodyPost _ _ _ _ _ (put4P w0 b (.slice none 0 0) (.slice none 0 0) (.slice none 0 0) (.slice none 0 0))
    generalize put4P w0 b (.slice none 0 0) (.slice none 0 0) (.slice none 0 0) (.slice none 0 0) = wz at *
    have g0 := RZ.out.cell (j := 0) rfl
    have g1 := RZ.out.cell (j := 1) rfl
    have g2 := RZ.out.cell (j := 2) rfl
    have g3 := RZ.out.cell (j := 3) rfl
    refine bodyPost_ret (v := .tuple #[.agg #[.slice none 0 0, .slice none 0 0, .slice none 0 0, .slice none 0 0], .int .i64 0, .int .i64 2]) (by simp [results, Tryz.results9, go_sem, g0, g1, g2, g3]) rfl ?_
    exact ⟨by rw [HBB.out]; exact BZ.out, [], _, _, _, _, by rw [HE.out]; rfl, by rw [HE.out]; exact FileAt.none _ _⟩
  · have q1 : decide ((200 : Int) < (n : Int)) = false := by simp; omega
    have hn200 : n ≤ 200 := by omega
    clear h200 c0 c1 c2 c3 f0 f1 f2 f3
    have HRS := Lib.hid (RowsAt.start w0)
    have HB1 := Lib.hid (HB0.out.trans ((below_new (Below.refl w0.heap.size w0) (.cells #[.slice none 0 0, .slice none 0 0, .slice none 0 0, .slice none 0 0] 27)).mono (by have := HSZ.out; omega)))
    have HKB := Lib.hid (HK0.out.below (below_new (Below.refl w0.heap.size w0) (.cells #[.slice none 0 0, .slice none 0 0, .slice none 0 0, .slice none 0 0] 27)) HK0.out.lt)
    go_upto_region 4 with fail
    rw [HSZ.out] at HRS
    rw [HSZ.out]
    generalize w0.alloc (.cells #[.slice none 0 0, .slice none 0 0, .slice none 0 0, .slice none 0 0] 27) = w1 at *
    go_wp2_with fail
    go_loopw [25] (fun i wr => ∃ (j : Nat) (v0 : Value), j ≤ n ∧ i = .int .i64 (j : Int) ∧ Hid (RowsAt (b + 1 + 1) (b + 1) 27 (rowsF { emptyF with mac := macrosP (l.take j) } [] v0 (.slice none 0 0) (.slice none 0 0) (.slice none 0 0)) [] wr) ∧ Hid (ButLo (b + 1 + 1) (b + 1) w1 wr)) (fun i _ => n - (intOf i).toNat)
    case atStart => exact ⟨0, _, by omega, rfl, HRS, Lib.hid (ButLo.refl _ _ _)⟩
    case round =>
      obtain ⟨j, v0, hj, rfl, HRj, HBj⟩ := hrel
      have HBL := Lib.hid (ButLo.toBelow HB1.out HBj.out (by omega) (by omega))
      by_cases hlt : j < n
      · obtain ⟨s, hx⟩ : ∃ s, l[j]? = some s := ⟨_, List.getElem?_eq_getElem (by rw [HN.out]; exact hlt)⟩
        obtain ⟨bA, off, rfl, hc⟩ := Rd.scell (HR.out.below (by rw [HBB.out]; exact HBL.out)) hx
        have HDF := Lib.hid (show Calls Tryz.prog 34 #[.string ⟨s.toArray⟩] wr (DefPost s wr) from fDefines_any s (HS.out s (List.mem_of_getElem? hx)) wr)
        have HMS := Lib.hid (macrosP_snoc hx)
        have HML : Hid ((macrosP (l.take j)).length ≤ 200) := Lib.hid (by have := macrosP_len (l.take j); rw [List.length_take] at this; omega)
        obtain ⟨A0, r0, hv0⟩ := slice_ofF (HRj.out.own ⟨71, 2, v0, (macrosP (l.take j)).length, macV (macrosP (l.take j))⟩ (by unfold rowsF; simp))
        dsimp only at hv0
        subst hv0
        generalize hM : macrosP (l.take j) = M at *
        obtain ⟨n0, hn0⟩ : ∃ n0, M.length = n0 := ⟨_, rfl⟩
        have HN0 := Lib.hid hn0
        rw [hn0] at HRj HML
        generalize (⟨s.toArray⟩ : ByteArray) = bs at hc HDF
        have j0 : (0 : Int) ≤ (j : Int) := by omega
        have j1 : (j : Int) < (n : Int) := by omega
        clear hx hM hn0
        go_wp2_with fail
        refine HDF.out.mono ?_
        rintro e w2 ⟨hb2, mn, mv, hmv, rfl⟩
        have HR2 := Lib.hid (HRj.out.below hb2)
        have HW2 := Lib.hid (HBj.out.below hb2 HRj.out.top)
        have HMV := Lib.hid hmv
        obtain ⟨bn, hbn⟩ : ∃ bn, sv mn = .string bn := ⟨_, rfl⟩
        obtain ⟨bv, hbv⟩ : ∃ bv, sv mv = .string bv := ⟨_, rfl⟩
        rw [hbn, hbv]
        have HBN := Lib.hid hbn
        have HBV := Lib.hid hbv
        have hb3 := below_new (Below.refl w2.heap.size w2) (.cells #[.string bn, .string bv] 71)
        have HR3 := Lib.hid (HR2.out.below hb3)
        have HW3 := Lib.hid (HW2.out.below hb3 HR2.out.top)
        have HK8 := Lib.hid (Blk.new w2 #[.string bn, .string bv] 71)
        clear hb2 hmv hbn hbv hb3
        cases hd : definedP s with
        | none =>
          have HD := Lib.hid hd
          simp only [Option.isSome_none]
          clear hd
          go_wp2_with fail
          go_roundw
          case rel => exact ⟨j + 1, _, by omega, by go_num, by rw [HMS.out, HD.out]; simpa using HR3, HW3⟩
          case measure => simp [intOf]; omega
        | some m =>
          have HD : Hid (definedP s = some (mn, mv)) := Lib.hid (by rw [hd]; have := HMV.out; rw [hd] at this; exact congrArg some this.symm)
          simp only [Option.isSome_some]
          clear hd
          go_upto_region 9 with fail
          generalize w2.alloc (.cells #[.string bn, .string bv] 71) = w3 at *
          generalize w2.heap.size = k8 at *
          have m0 : w3.cell? ⟨b + 1, 0, none⟩ = some (.slice A0 n0 r0) := HR3.out.box.cell (j := 0) rfl
          have d0 : w3.cell? ⟨k8, 0, none⟩ = some (.string bn) := HK8.out.cell (j := 0) rfl
          have d1 : w3.cell? ⟨k8, 1, none⟩ = some (.string bv) := HK8.out.cell (j := 1) rfl
          have HRK : Hid ((rowsF { emptyF with mac := M } [] (.slice A0 n0 r0) (.slice none 0 0) (.slice none 0 0) (.slice none 0 0))[0]? = some ⟨71, 2, .slice A0 n0 r0, n0, macV M⟩) := Lib.hid (by unfold rowsF; simp [HN0.out])
          go_wp2_with (at_builtin; refine wpList_pushF w3 _ _ HR3.out 0 elMacF A0 n0 r0 (macV M) HRK.out #[.string bn, .string bv] rfl (by intro u hu; simp at hu; rcases hu with rfl | rfl <;> rfl) (by have := HML.out; omega) (by have := HML.out; omega) (N := []) (by simp) rfl rfl rfl rfl ?_; intro g c' w4 hb4 hr4 hw4; have e0 := hb4.cell (j := 0) rfl; have e1 := hb4.free 0; have HR4 := Lib.hid hr4; have HW4 := Lib.hid hw4; clear hb4 hr4 hw4)
          go_roundw
          case rel => exact ⟨j + 1, .slice (some ⟨g, 0, none⟩) (n0 + 1) c', by omega, by go_num, Lib.hid (by
            have hh := HR4.out
            rw [HMS.out, HD.out, Option.toList_some, ← rowsF_mac (f := { emptyF with mac := M }) (A := A0) (c := r0) HN0.out (p := (mn, mv)) HBN.out HBV.out]
            exact hh), Lib.hid (HW3.out.trans HW4.out)⟩
          case measure => simp [intOf]; omega
      · obtain rfl : j = n := by omega
        have hMA : macrosP (l.take j) = macrosP l := by rw [List.take_of_length_le (by have := HN.out; omega)]
        rw [hMA] at HRj
        clear hMA
        have HML : Hid ((macrosP l).length ≤ 200) := Lib.hid (by have := macrosP_len l; have := HN.out; omega)
        have HSM : Hid (∀ x ∈ macrosP l, x.1.length ≤ 9223372036854775807 ∧ x.2.length < 4294967281) := Lib.hid (fun x hx => by
          unfold macrosP at hx
          obtain ⟨s, hs, hd⟩ := List.mem_filterMap.1 hx
          have h1 := definedP_len hd
          have h2 := HS.out s hs
          exact ⟨by omega, by omega⟩)
        have HFB : Hid (flatsE (macrosP l) ≠ 0 → fileP l = (flatsE (macrosP l), 0, emptyF)) := Lib.hid (fun h => fileP_flat (by rw [HN.out]; omega) h)
        have HFO : Hid (flatsE (macrosP l) = 0 → fileP l = parseFrom (macrosP l) 0 { emptyF with mac := macrosP l } l) := Lib.hid (fun h => fileP_from (by rw [HN.out]; omega) h)
        obtain ⟨A0, r0, hv0⟩ := slice_ofF (HRj.out.own ⟨71, 2, v0, (macrosP l).length, macV (macrosP l)⟩ (by unfold rowsF; simp))
        dsimp only at hv0
        subst hv0
        generalize macrosP l = M at *
        obtain ⟨n0, hn0⟩ : ∃ n0, M.length = n0 := ⟨_, rfl⟩
        have HN0 := Lib.hid hn0
        have HRD0 := Lib.hid (Rd.own2 (HRj.out.own ⟨71, 2, .slice A0 M.length r0, M.length, macV M⟩ (by unfold rowsF; simp)))
        rw [hn0] at HRj HML HRD0
        clear hn0
        have m0 : wr.cell? ⟨b + 1, 0, none⟩ = some (.slice A0 n0 r0) := HRj.out.box.cell (j := 0) rfl
        have HKr := Lib.hid (HKB.out.butLo HBj.out (by omega) (by omega))
        have HGr : Hid (1 < wr.heap.size) := Lib.hid (Nat.lt_of_lt_of_le (by have := HG0.out; have := HBB.out; omega) HBL.out.size)
        have HMr : Hid (wr.cell? ⟨1, 0, none⟩ = some (.int .i64 mx)) := Lib.hid (HMX.out wr HBL.out)
        have HFL := Lib.hid (mFlatAll_any (c := r0) M mx wr HRD0.out HN0.out (by have := HML.out; omega) HSM.out HMr.out HGr.out)
        go_wp2_with fail
        refine HFL.out.mono ?_
        rintro e w2 ⟨hb2, (⟨hbad, rfl⟩ | ⟨hok, AF, cF, rfl, hown⟩)⟩
        · have HE := Lib.hid (HFB.out hbad)
          have HB2 := Lib.hid (HBL.out.trans (hb2.mono (by have := HKr.out.lt; omega)))
          have HK2 := Lib.hid (HKr.out.below hb2 HKr.out.lt)
          have p1 : (((flatsE M : Nat) : Int) != 0) = true := by simp; omega
          generalize flatsE M = E0 at *
          clear hbad hb2
          have c0 := HK2.out.cell (j := 0) rfl
          have c1 := HK2.out.cell (j := 1) rfl
          have c2 := HK2.out.cell (j := 2) rfl
          have c3 := HK2.out.cell (j := 3) rfl
          have f0 := HK2.out.free 0
          have f1 := HK2.out.free 1
          have f2 := HK2.out.free 2
          have f3 := HK2.out.free 3
          go_wp2_with fail
          have RZ := Lib.hid (HK2.out.put4P (.slice none 0 0) (.slice none 0 0) (.slice none 0 0) (.slice none 0 0))
          have BZ := Lib.hid (below_put4P HB2.out (Nat.le_refl _) (.slice none 0 0) (.slice none 0 0) (.slice none 0 0) (.slice none 0 0))
          show bodyPost _ _ _ _ _ (put4P w2 b (.slice none 0 0) (.slice none 0 0) (.slice none 0 0) (.slice none 0 0))
          generalize put4P w2 b (.slice none 0 0) (.slice none 0 0) (.slice none 0 0) (.slice none 0 0) = wz at *
          have g0 := RZ.out.cell (j := 0) rfl
          have g1 := RZ.out.cell (j := 1) rfl
          have g2 := RZ.out.cell (j := 2) rfl
          have g3 := RZ.out.cell (j := 3) rfl
          refine bodyPost_ret (v := .tuple #[.agg #[.slice none 0 0, .slice none 0 0, .slice none 0 0, .slice none 0 0], .int .i64 0, .int .i64 (E0 : Int)]) (by simp [results, Tryz.results9, go_sem, g0, g1, g2, g3]) rfl ?_
          exact ⟨by rw [HBB.out]; exact BZ.out, [], _, _, _, _, by rw [HE.out]; rfl, by rw [HE.out]; exact FileAt.none _ _⟩
        · have HE := Lib.hid (HFO.out hok)
          have HB2 := Lib.hid (HBL.out.trans (hb2.mono (by have := HKr.out.lt; omega)))
          have HR2 := Lib.hid (HRj.out.below hb2)
          have HW2 := Lib.hid (HBj.out.below hb2 HRj.out.top)
          clear hb2 hown hok HFB HFO HRj HBj HFL HGr HMr HKr m0 HRD0
          go_wp2_with fail
          go_loopw [54] (fun i wq => ∃ (q : Nat) (f : FileT) (L : List RSlot) (v0 v1 v2 v3 : Value), q ≤ j ∧ i = .int .i64 (q : Int) ∧ Hid (RowsAt (b + 1 + 1) (b + 1) 27 (rowsF f L v0 v1 v2 v3) L wq) ∧ Hid (rulesOf L = f.rul) ∧ Hid (ButLo (b + 1 + 1) (b + 1) w1 wq) ∧ Hid (f.mac = M) ∧ Hid (f.pho.length ≤ 20 ∧ f.rul.length ≤ 100 ∧ f.inf.length ≤ q) ∧ Hid (fileP l = parseFrom M q f (l.drop q)) ∧ Hid (∀ x ∈ L, farS x (some b))) (fun i _ => j - (intOf i).toNat)
          case atStart => exact ⟨0, { emptyF with mac := M }, [], _, _, _, _, by omega, rfl, HR2, Lib.hid rfl, HW2, Lib.hid rfl, Lib.hid ⟨by simp [emptyF], by simp [emptyF], by simp [emptyF]⟩, HE, Lib.hid (fun x hx => by cases hx)⟩
          case round =>
            obtain ⟨q, f, L, v0, v1, v2, v3, hq, rfl, HRq, HLq, HBq, HMq, HCq, HEq, HFq⟩ := hrel
            have HBLq := Lib.hid (ButLo.toBelow HB1.out HBq.out (by omega) (by omega))
            by_cases hlt : q < j
            · obtain ⟨s, hx⟩ : ∃ s, l[q]? = some s := ⟨_, List.getElem?_eq_getElem (by rw [HN.out]; exact hlt)⟩
              have hdr : l.drop q = s :: l.drop (q + 1) := by
                obtain ⟨h1, h2⟩ := List.getElem?_eq_some_iff.1 hx
                rw [List.drop_eq_getElem_cons h1, h2]
              have HST := Lib.hid (HEq.out.trans (congrArg (parseFrom M q f) hdr))
              have HSS := Lib.hid (HS.out s (List.mem_of_getElem? hx))
              obtain ⟨bA, off, rfl, hc⟩ := Rd.scell (HR.out.below (by rw [HBB.out]; exact HBLq.out)) hx
              have HDF := Lib.hid (show Calls Tryz.prog 34 #[.string ⟨s.toArray⟩] wr (DefPost s wr) from fDefines_any s HSS.out wr)
              have j0 : (0 : Int) ≤ (q : Int) := by omega
              have j1 : (q : Int) < (j : Int) := by omega
              clear hx hdr
              go_wp2_with fail
              refine HDF.out.mono ?_
              rintro e w3 ⟨hb3, mn, mv, hmv, rfl⟩
              have HR3 := Lib.hid (HRq.out.below hb3)
              have HW3 := Lib.hid (HBq.out.below hb3 HRq.out.top)
              obtain ⟨bn, hbn⟩ : ∃ bn, sv mn = .string bn := ⟨_, rfl⟩
              obtain ⟨bv, hbv⟩ : ∃ bv, sv mv = .string bv := ⟨_, rfl⟩
              rw [hbn, hbv]
              have hb4 := below_new (Below.refl w3.heap.size w3) (.cells #[.string bn, .string bv] 71)
              have HR4 := Lib.hid (HR3.out.below hb4)
              have HW4 := Lib.hid (HW3.out.below hb4 HR3.out.top)
              clear hb3 hmv hbn hbv hb4
              cases hd : (definedP s).isSome with
              | true =>
                have HD := Lib.hid hd
                clear hd
                go_wp2_with fail
                go_roundw
                case rel => exact ⟨q + 1, f, L, v0, v1, v2, v3, by omega, by go_num, HR4, HLq, HW4, HMq, Lib.hid ⟨HCq.out.1, HCq.out.2.1, by have := HCq.out.2.2; omega⟩, Lib.hid (by rw [HST.out, parseFrom, if_pos HD.out]), HFq⟩
                case measure => simp [intOf]; omega
              | false =>
                have HD := Lib.hid hd
                clear hd
                go_upto_region 18 with fail
                generalize w3.alloc (.cells #[.string bn, .string bv] 71) = w4 at *
                generalize w3.heap.size = k8 at *
                obtain ⟨A5, r5, hv5⟩ := slice_ofF (HR4.out.own ⟨71, 2, v0, f.mac.length, macV f.mac⟩ (by unfold rowsF; simp))
                dsimp only at hv5
                subst hv5
                have HRD5 := Lib.hid (Rd.own2 (HR4.out.own ⟨71, 2, .slice A5 f.mac.length r5, f.mac.length, macV f.mac⟩ (by unfold rowsF; simp)))
                have m5 : w4.cell? ⟨b + 1, 0, none⟩ = some (.slice A5 f.mac.length r5) := HR4.out.box.cell (j := 0) rfl
                have HBL4 := Lib.hid (ButLo.toBelow HB1.out HW4.out (by omega) (by omega))
                have HG4 : Hid (1 < w4.heap.size) := Lib.hid (Nat.lt_of_lt_of_le (by have := HG0.out; have := HBB.out; omega) HBL4.out.size)
                have HXP := Lib.hid (show Calls Tryz.prog 36 #[.slice A5 f.mac.length r5, .string ⟨s.toArray⟩] w4 (ExpPost M s w4) from mExpand_any (c := r5) M s mx w4 (HMq.out ▸ HRD5.out) (by rw [HMq.out]) (by rw [HMq.out, HN0.out]; have := HML.out; omega) HSM.out (by have := HSS.out; omega) (HMX.out w4 HBL4.out) HG4.out)
                generalize (⟨s.toArray⟩ : ByteArray) = bs at *
                go_wp2_with fail
                refine HXP.out.mono ?_
                rintro e w5 ⟨hb5, rfl⟩
                have HR5 := Lib.hid (HR4.out.below hb5)
                have HW5 := Lib.hid (HW4.out.below hb5 HR4.out.top)
                clear hb5 HXP m5 HRD5
                by_cases he : expE M s ≠ 0
                · have HEX : Hid (fileP l = (expE M s, q + 1, emptyF)) := Lib.hid (by rw [HST.out, parseFrom, if_neg (by rw [HD.out]; decide), if_pos he])
                  have HB5 := Lib.hid (ButLo.toBelow HB1.out HW5.out (by omega) (by omega))
                  have HK5 := Lib.hid (HKB.out.butLo HW5.out (by omega) (by omega))
                  have p1 : (((expE M s : Nat) : Int) != 0) = true := by simp; omega
                  generalize expE M s = E0 at *
                  clear he
                  have c0 := HK5.out.cell (j := 0) rfl
                  have c1 := HK5.out.cell (j := 1) rfl
                  have c2 := HK5.out.cell (j := 2) rfl
                  have c3 := HK5.out.cell (j := 3) rfl
                  have f0 := HK5.out.free 0
                  have f1 := HK5.out.free 1
                  have f2 := HK5.out.free 2
                  have f3 := HK5.out.free 3
                  go_wp2_with fail
                  have RZ := Lib.hid (HK5.out.put4P (.slice none 0 0) (.slice none 0 0) (.slice none 0 0) (.slice none 0 0))
                  have BZ := Lib.hid (below_put4P HB5.out (Nat.le_refl _) (.slice none 0 0) (.slice none 0 0) (.slice none 0 0) (.slice none 0 0))
                  show bodyPost _ _ _ _ _ (put4P w5 b (.slice none 0 0) (.slice none 0 0) (.slice none 0 0) (.slice none 0 0))
                  generalize put4P w5 b (.slice none 0 0) (.slice none 0 0) (.slice none 0 0) (.slice none 0 0) = wz at *
                  have g0 := RZ.out.cell (j := 0) rfl
                  have g1 := RZ.out.cell (j := 1) rfl
                  have g2 := RZ.out.cell (j := 2) rfl
                  have g3 := RZ.out.cell (j := 3) rfl
                  refine bodyPost_ret (v := .tuple #[.agg #[.slice none 0 0, .slice none 0 0, .slice none 0 0, .slice none 0 0], .int .i64 ((q : Int) + 1), .int .i64 (E0 : Int)]) (by simp [results, Tryz.results9, go_sem, g0, g1, g2, g3]) rfl ?_
                  exact ⟨by rw [HBB.out]; exact BZ.out, [], _, _, _, _, by rw [HEX.out]; rfl, by rw [HEX.out]; exact FileAt.none _ _⟩
                · have he0 : expE M s = 0 := by omega
                  have HT : Hid ((expT M s).length ≤ 2000) := Lib.hid (by unfold expT; rw [if_pos he0]; exact flatP_short _ _)
                  have HS2 : Hid (fileP l = if (parseR (expT M s)).1 ≠ 0 then ((parseR (expT M s)).1, q + 1, emptyF) else if (addP f (parseR (expT M s)).2).1 ≠ 0 then ((addP f (parseR (expT M s)).2).1, q + 1, emptyF) else parseFrom M (q + 1) (addP f (parseR (expT M s)).2).2 (l.drop (q + 1))) := Lib.hid (by rw [HST.out, parseFrom, if_neg (by rw [HD.out]; decide), if_neg he])
                  have p1 : (((expE M s : Nat) : Int) != 0) = false := by rw [he0]; rfl
                  have HPR := Lib.hid (show Calls Tryz.prog 37 #[sv (expT M s)] w5 (PaPostG (expT M s) w5) from rlParseG_any (expT M s) w5 (by have := HT.out; omega))
                  generalize expT M s = TX at *
                  generalize expE M s = E0 at *
                  clear he he0
                  go_wp2_with fail
                  refine HPR.out.mono ?_
                  intro e w6 hpg
                  by_cases hp0 : (parseR TX).1 = 0
                  · obtain ⟨x, hx1, rfl, hx2, hb6, hf1, hf2, hns, t0, ht0, ht0l⟩ := parsed_in (by have := HT.out; omega) hp0 hpg
                    have HW6 := Lib.hid (HW5.out.below hb6 HR5.out.top)
                    have HR6 := Lib.hid (HR5.out.below hb6)
                    have hb7 := below_new (Below.refl w6.heap.size w6) (.cells #[rsT x, rsN x] 78)
                    have HR7 := Lib.hid (HR6.out.below hb7)
                    have HW7 := Lib.hid (HW6.out.below hb7 HR6.out.top)
                    have HX7 := Lib.hid (hx2.below hb7)
                    have HFR : Hid (∀ r ∈ rowsF f L (.slice A5 f.mac.length r5) v1 v2 v3, farS x r.v.ownBlock) := Lib.hid (fun r hr => fresh_far hf1 hf2 (fun g hg => ((HR5.out.own r hr).lt g hg).2))
                    have HFB : Hid (farS x (some (b + 1))) := Lib.hid (fresh_far hf1 hf2 (fun g hg => by injection hg with hg; have := HR5.out.box.lt; omega))
                    have HFb : Hid (farS x (some b)) := Lib.hid (fresh_far hf1 hf2 (fun g hg => by injection hg with hg; have := HR5.out.box.lt; omega))
                    have HK9 := Lib.hid (Blk.new w6 #[rsT x, rsN x] 78)
                    clear hb6 hb7 hx2 hf1 hf2
                    have HB7 := Lib.hid (ButLo.toBelow HB1.out HW7.out (by omega) (by omega))
                    have HAD := Lib.hid (fAdd_any HR7.out HLq.out HX7.out HFR.out HFB.out HCq.out.1 HCq.out.2.1 (by have := HCq.out.2.2; have := HN.out; omega) (by omega) ht0 (by omega) mx (HMX.out _ HB7.out) (Nat.lt_of_lt_of_le (by have := HG0.out; have := HBB.out; omega) HB7.out.size))
                    have HPX := Lib.hid hx1
                    have HP0 := Lib.hid hp0
                    clear hx1 hp0 hns ht0 ht0l
                    simp only [rsT, rsN] at HAD HK9 HR7 HW7 HX7 HB7 ⊢
                    go_upto_region 23 with fail
                    generalize w6.alloc (.cells #[.slice x.1.1 x.2.2.1.length x.1.2, .slice x.2.1.1 x.2.2.2.length x.2.1.2] 78) = w7 at *
                    generalize w6.heap.size = k9 at *
                    have y0 := HK9.out.cell (j := 0) rfl
                    have y1 := HK9.out.cell (j := 1) rfl
                    go_wp2_with fail
                    refine HAD.out.mono ?_
                    rintro e w8 ⟨f', L', u0, u1, u2, u3, rfl, hf', hL', hR', hB', hsub⟩
                    have HR8 := Lib.hid hR'
                    have HL8 := Lib.hid hL'
                    have HW8 := Lib.hid (HW7.out.trans hB')
                    have HF8 := Lib.hid hf'
                    have HU8 := Lib.hid hsub
                    clear hR' hL' hB' hf' hsub y0 y1
                    by_cases ha : (addP f x.2.2).1 = 0
                    · have HNX : Hid (fileP l = parseFrom M (q + 1) f' (l.drop (q + 1))) := Lib.hid (by rw [HS2.out, if_neg (fun e => e HP0.out), if_neg (by rw [← HPX.out]; exact fun e => e ha), ← HPX.out, HF8.out])
                      have HMC : Hid (f'.mac = M) := Lib.hid (by rw [HF8.out, addP_mac]; exact HMq.out)
                      have HKP : Hid (f'.pho.length ≤ 20 ∧ f'.rul.length ≤ 100 ∧ f'.inf.length ≤ q + 1) := Lib.hid (by rw [HF8.out]; exact addP_keeps ha HCq.out.1 HCq.out.2.1 HCq.out.2.2)
                      have HFX : Hid (∀ y ∈ L', farS y (some b)) := Lib.hid (fun y hy => by
                        rcases HU8.out y hy with h | h
                        · exact HFq.out y h
                        · rw [h]; exact HFb.out)
                      rw [ha]
                      clear ha
                      go_wp2_with fail
                      go_roundw
                      case rel => exact ⟨q + 1, f', L', u0, u1, u2, u3, by omega, by go_num, HR8, HL8, HW8, HMC, HKP, HNX, HFX⟩
                      case measure => simp [intOf]; omega
                    · have HEX : Hid (fileP l = ((addP f x.2.2).1, q + 1, emptyF)) := Lib.hid (by rw [HS2.out, if_neg (fun e => e HP0.out), ← HPX.out, if_pos ha])
                      have HB8 := Lib.hid (ButLo.toBelow HB1.out HW8.out (by omega) (by omega))
                      have HK8 := Lib.hid (HKB.out.butLo HW8.out (by omega) (by omega))
                      have p2 : ((((addP f x.2.2).1 : Nat) : Int) != 0) = true := by simp; omega
                      generalize (addP f x.2.2).1 = E1 at *
                      clear ha
                      have c0 := HK8.out.cell (j := 0) rfl
                      have c1 := HK8.out.cell (j := 1) rfl
                      have c2 := HK8.out.cell (j := 2) rfl
                      have c3 := HK8.out.cell (j := 3) rfl
                      have f0 := HK8.out.free 0
                      have f1 := HK8.out.free 1
                      have f2 := HK8.out.free 2
                      have f3 := HK8.out.free 3
                      go_wp2_with fail
                      have RZ := Lib.hid (HK8.out.put4P (.slice none 0 0) (.slice none 0 0) (.slice none 0 0) (.slice none 0 0))
                      have BZ := Lib.hid (below_put4P HB8.out (Nat.le_refl _) (.slice none 0 0) (.slice none 0 0) (.slice none 0 0) (.slice none 0 0))
                      show bodyPost _ _ _ _ _ (put4P w8 b (.slice none 0 0) (.slice none 0 0) (.slice none 0 0) (.slice none 0 0))
                      generalize put4P w8 b (.slice none 0 0) (.slice none 0 0) (.slice none 0 0) (.slice none 0 0) = wz at *
                      have g0 := RZ.out.cell (j := 0) rfl
                      have g1 := RZ.out.cell (j := 1) rfl
                      have g2 := RZ.out.cell (j := 2) rfl
                      have g3 := RZ.out.cell (j := 3) rfl
                      refine bodyPost_ret (v := .tuple #[.agg #[.slice none 0 0, .slice none 0 0, .slice none 0 0, .slice none 0 0], .int .i64 ((q : Int) + 1), .int .i64 (E1 : Int)]) (by simp [results, Tryz.results9, go_sem, g0, g1, g2, g3]) rfl ?_
                      exact ⟨by rw [HBB.out]; exact BZ.out, [], _, _, _, _, by rw [HEX.out]; rfl, by rw [HEX.out]; exact FileAt.none _ _⟩
                  · obtain ⟨A6, c6, A7, c7, rfl, _, _, hb6, _⟩ := hpg
                    have HEX : Hid (fileP l = ((parseR TX).1, q + 1, emptyF)) := Lib.hid (by rw [HS2.out, if_pos hp0])
                    have HW6 := Lib.hid (HW5.out.below hb6 HR5.out.top)
                    have hb7 := below_new (Below.refl w6.heap.size w6) (.cells #[.slice A6 (parseR TX).2.1.length c6, .slice A7 (parseR TX).2.2.length c7] 78)
                    have HW7 := Lib.hid (HW6.out.below hb7 (Nat.le_trans HR5.out.top hb6.size))
                    have HB7 := Lib.hid (ButLo.toBelow HB1.out HW7.out (by omega) (by omega))
                    have HK7 := Lib.hid (HKB.out.butLo HW7.out (by omega) (by omega))
                    have p2 : ((((parseR TX).1 : Nat) : Int) != 0) = true := by simp; omega
                    have p3 : ((((parseR TX).1 : Nat) : Int) == 0) = false := by simp; omega
                    clear hb6 hb7
                    unfold rlV
                    go_upto_region 23 with fail
                    generalize w6.alloc (.cells #[.slice A6 (parseR TX).2.1.length c6, .slice A7 (parseR TX).2.2.length c7] 78) = w7 at *
                    generalize (parseR TX).1 = E1 at *
                    clear hp0
                    have c0 := HK7.out.cell (j := 0) rfl
                    have c1 := HK7.out.cell (j := 1) rfl
                    have c2 := HK7.out.cell (j := 2) rfl
                    have c3 := HK7.out.cell (j := 3) rfl
                    have f0 := HK7.out.free 0
                    have f1 := HK7.out.free 1
                    have f2 := HK7.out.free 2
                    have f3 := HK7.out.free 3
                    go_wp2_with fail
                    have RZ := Lib.hid (HK7.out.put4P (.slice none 0 0) (.slice none 0 0) (.slice none 0 0) (.slice none 0 0))
                    have BZ := Lib.hid (below_put4P HB7.out (Nat.le_refl _) (.slice none 0 0) (.slice none 0 0) (.slice none 0 0) (.slice none 0 0))
                    show bodyPost _ _ _ _ _ (put4P w7 b (.slice none 0 0) (.slice none 0 0) (.slice none 0 0) (.slice none 0 0))
                    generalize put4P w7 b (.slice none 0 0) (.slice none 0 0) (.slice none 0 0) (.slice none 0 0) = wz at *
                    have g0 := RZ.out.cell (j := 0) rfl
                    have g1 := RZ.out.cell (j := 1) rfl
                    have g2 := RZ.out.cell (j := 2) rfl
                    have g3 := RZ.out.cell (j := 3) rfl
                    refine bodyPost_ret (v := .tuple #[.agg #[.slice none 0 0, .slice none 0 0, .slice none 0 0, .slice none 0 0], .int .i64 ((q : Int) + 1), .int .i64 (E1 : Int)]) (by simp [results, Tryz.results9, go_sem, g0, g1, g2, g3]) rfl ?_
                    exact ⟨by rw [HBB.out]; exact BZ.out, [], _, _, _, _, by rw [HEX.out]; rfl, by rw [HEX.out]; exact FileAt.none _ _⟩
            · obtain rfl : q = j := by omega
              have HE3 : Hid (fileP l = (0, 0, f)) := Lib.hid (by rw [HEq.out, List.drop_of_length_le (by have := HN.out; omega), parseFrom])
              have HKq := Lib.hid (HKB.out.butLo HBq.out (by omega) (by omega))
              have c0 := HKq.out.cell (j := 0) rfl
              have c1 := HKq.out.cell (j := 1) rfl
              have c2 := HKq.out.cell (j := 2) rfl
              have c3 := HKq.out.cell (j := 3) rfl
              have f0 := HKq.out.free 0
              have f1 := HKq.out.free 1
              have f2 := HKq.out.free 2
              have f3 := HKq.out.free 3
              have d0 : wr.cell? ⟨b + 1, 0, none⟩ = some v0 := HRq.out.box.cell (j := 0) rfl
              have d1 : wr.cell? ⟨b + 1, 1, none⟩ = some v1 := HRq.out.box.cell (j := 1) rfl
              have d2 : wr.cell? ⟨b + 1, 2, none⟩ = some v2 := HRq.out.box.cell (j := 2) rfl
              have d3 : wr.cell? ⟨b + 1, 3, none⟩ = some v3 := HRq.out.box.cell (j := 3) rfl
              have RZ := Lib.hid (HKq.out.put4P v0 v1 v2 v3)
              have BZ := Lib.hid (below_put4P HBLq.out (Nat.le_refl _) v0 v1 v2 v3)
              have FZ := Lib.hid (FileAt.put (b := b) (b' := w.heap.size) HRq.out HLq.out (by omega) HFq.out (by have := HBB.out; omega) v0 v1 v2 v3)
              obtain ⟨A0, r0, hv0⟩ := slice_ofF (HRq.out.own ⟨71, 2, v0, f.mac.length, macV f.mac⟩ (by unfold rowsF; simp))
              obtain ⟨A1, r1, hv1⟩ := slice_ofF (HRq.out.own ⟨9, 1, v1, f.pho.length, f.pho.map sv⟩ (by unfold rowsF; simp))
              obtain ⟨A2, r2, hv2⟩ := slice_ofF (HRq.out.own ⟨85, 2, v2, f.inf.length, macV f.inf⟩ (by unfold rowsF; simp))
              obtain ⟨A3, r3, hv3⟩ := slice_ofF (HRq.out.own ⟨78, 2, v3, L.length, rsV L⟩ (by unfold rowsF; simp))
              dsimp only at hv0 hv1 hv2 hv3
              subst hv0 hv1 hv2 hv3
              go_wp2_with fail
              show bodyPost _ _ _ _ _ (put4P wr b (.slice A0 f.mac.length r0) (.slice A1 f.pho.length r1) (.slice A2 f.inf.length r2) (.slice A3 L.length r3))
              generalize put4P wr b (.slice A0 f.mac.length r0) (.slice A1 f.pho.length r1) (.slice A2 f.inf.length r2) (.slice A3 L.length r3) = wz at *
              have g0 := RZ.out.cell (j := 0) rfl
              have g1 := RZ.out.cell (j := 1) rfl
              have g2 := RZ.out.cell (j := 2) rfl
              have g3 := RZ.out.cell (j := 3) rfl
              refine bodyPost_ret (v := .tuple #[.agg #[.slice A0 f.mac.length r0, .slice A1 f.pho.length r1, .slice A2 f.inf.length r2, .slice A3 L.length r3], .int .i64 0, .int .i64 0]) (by simp [results, Tryz.results9, go_sem, g0, g1, g2, g3]) rfl ?_
              exact ⟨by rw [HBB.out]; exact BZ.out, L, _, _, _, _, by rw [HE3.out]; rfl, by rw [HE3.out]; exact FZ.out⟩
end Go.Proofs.YtoandhhkmkgmaaaGreatDoor
/- file.Lines: the walk. -/
namespace Go.Proofs.YtoandhhkmkgmaaaGreatDoor
open Go.RowKit Go.ChangeMaps

theorem txtE_at {t : List TxtT} {j : Nat} {x : TxtT} (h : t[j]? = some x) : txtE (t.take j) j (t.drop j) = if goodName x.1 = false then 3 else if x.1 ∈ (t.take j).map (·.1) then 6 else txtE (t.take (j + 1)) (j + 1) (t.drop (j + 1)) := by
  have hd : t.drop j = x :: t.drop (j + 1) := by
    obtain ⟨h1, h2⟩ := List.getElem?_eq_some_iff.1 h
    rw [List.drop_eq_getElem_cons h1, h2]
  have ht : t.take (j + 1) = t.take j ++ [x] := by rw [List.take_add_one, h]; rfl
  rw [hd, txtE, ht]
theorem txtE_end {t : List TxtT} {j : Nat} (h : t.length ≤ j) : txtE (t.take j) j (t.drop j) = 0 := by rw [List.drop_of_length_le h, txtE]
theorem txtM_snoc (t : List TxtT) (x : TxtT) : txtM (t ++ [x]) = txtM t ++ [(x.1, sv x.2)] := by unfold txtM; rw [List.map_append]; rfl
theorem TxtOk.nil : TxtOk [] := ⟨by simp, by simp, by simp⟩
theorem TxtOk.snoc {t : List TxtT} {x : TxtT} (h : TxtOk t) (hn : x.1 ∉ t.map (·.1)) (hg : goodName x.1 = true) (hs : x.2.length ≤ 4000000000) (hl : t.length + 1 ≤ 20) : TxtOk (t ++ [x]) := by
  refine ⟨?_, by simp; omega, fun y hy => ?_⟩
  · rw [List.map_append]
    exact nodup_snoc.2 ⟨h.once, hn⟩
  · rcases List.mem_append.1 hy with hy | hy
    · exact h.each y hy
    · rw [List.mem_singleton.1 hy]; exact ⟨good_len hg, hs⟩
theorem OpOk.nil (t : List TxtT) : OpOk t [] (t.length + 1) := ⟨List.nodup_nil, by simp, by simp⟩
theorem Fr.toBelow {lo B bm k : Nat} {t : List TxtT} {op O : List (List UInt8)} {m : Nat} {vo vu vo' vu' : Value} {w W W' : World} (h : RdA lo B bm t op m O vo vu W) (hf : Fr B vo vu W vo' vu' W') (hb : Below k w W) (hk : k ≤ B) : Below k w W' := by
  have h1 := h.blo
  exact hb.trans ⟨hf.os, hf.tape, hf.output, hf.size, fun j hj => hf.block j (h.lowSafe (by omega) (by omega))⟩
def LinPost (s : List UInt8) (t : List TxtT) (w : World) (e : Ending) (w' : World) : Prop :=
  ∃ A n c, e = .returned (.tuple #[.slice A n c, .int .i64 (((linesF s t).1 : Nat) : Int)]) ∧ (linesF s t).2.length = n ∧ w'.ownsRow w.heap.size 9 1 (.slice A n c) n ((linesF s t).2.map sv) ∧ Below w.heap.size w w'
theorem linPost_no {s : List UInt8} {t : List TxtT} {w w' : World} {k : Nat} (hb : Below w.heap.size w w') (he : linesF s t = (k, [])) : LinPost s t w (.returned (.tuple #[.slice none 0 0, .int .i64 (k : Int)])) w' :=
  ⟨none, 0, 0, by rw [he], by rw [he]; rfl, by rw [he]; exact World.ownsRow_nil _ _ _ _, hb⟩
set_option maxRecDepth 100000 in
set_option maxHeartbeats 8000000 in
theorem fLinesF_any {A : Option Addr} {n c : Nat} (s : List UInt8) (t : List TxtT) (w : World) (hr : Rd w A (macV t)) (hn : t.length = n) (hs : s.length ≤ 4000000000) (ht : ∀ x ∈ t, x.1.length ≤ 9223372036854775807 ∧ x.2.length ≤ 4000000000) (hnb : n ≤ 9223372036854775807)
    (mx : Int) (hmx : w.cell? ⟨1, 0, none⟩ = some (.int .i64 mx)) :
    Calls Tryz.prog 28 #[sv s, .slice A n c] w (LinPost s t w) := by
  have HR := Lib.hid hr
  have HN := Lib.hid hn
  have HT := Lib.hid ht
  have HSL := Lib.hid hs
  have HMX := Lib.hid hmx
  have HG := Lib.hid (lt_of_cell' hmx)
  obtain ⟨bs, hbs⟩ : ∃ bs, sv s = .string bs := ⟨_, rfl⟩
  have HBS := Lib.hid hbs
  rw [hbs]
  clear hr hn ht hs hmx hbs
  go_enter Tryz.func28, Tryz.ntmps28
  by_cases h20 : 20 < n
  · have q1 : decide ((20 : Int) < (n : Int)) = true := by simp; omega
    have HE : Hid (linesF s t = (2, [])) := Lib.hid (by unfold linesF; rw [if_pos (by rw [HN.out]; exact h20)])
    clear h20
    go_wp2_with fail
    go_ret2
    exact linPost_no (Below.refl _ _) HE.out
  · have q1 : decide ((20 : Int) < (n : Int)) = false := by simp; omega
    have H20 := Lib.hid h20
    have hmm := @run_makeMap Tryz.prog
    clear h20
    go_upto_region 4 with fail
    clear hmm
    have hba := below_new (Below.refl w.heap.size w) (.map #[] 0)
    have hbb := below_new (Below.refl (w.alloc (.map #[] 0)).heap.size (w.alloc (.map #[] 0))) (.cells #[.map (some w.heap.size), .slice none 0 0, .int .i64 0, .slice none 0 0] 113)
    have HB2 := Lib.hid (below_then hba hbb)
    have HMP : Hid (MapS ((w.alloc (.map #[] 0)).alloc (.cells #[.map (some w.heap.size), .slice none 0 0, .int .i64 0, .slice none 0 0] 113)) w.heap.size (txtM [])) := Lib.hid (MapS.below (w := w.alloc (.map #[] 0)) (by unfold MapS; rw [heap_alloc_new]; rfl) hbb (by simp))
    have HBX := Lib.hid (Blk.new (w.alloc (.map #[] 0)) #[.map (some w.heap.size), .slice none 0 0, .int .i64 0, .slice none 0 0] 113)
    have HSZ : Hid ((w.alloc (.map #[] 0)).heap.size = w.heap.size + 1) := Lib.hid (by simp)
    rw [HSZ.out] at HBX
    clear hba hbb HSZ
    generalize (w.alloc (.map #[] 0)).alloc (.cells #[.map (some w.heap.size), .slice none 0 0, .int .i64 0, .slice none 0 0] 113) = w2 at *
    have HB2w := Lib.hid HB2.out
    generalize hb : w.heap.size = b at HMP HBX ⊢
    have HBB := Lib.hid hb
    clear hb
    go_wp2_with fail
    go_loopw [20] (fun i wr => ∃ j : Nat, j ≤ n ∧ i = .int .i64 (j : Int) ∧ Hid (MapS wr b (txtM (t.take j))) ∧ Hid (Blk wr (b + 1) 113 [.map (some b), .slice none 0 0, .int .i64 0, .slice none 0 0]) ∧ Hid (Below w.heap.size w wr) ∧ Hid (TxtOk (t.take j)) ∧ Hid (txtE [] 0 t = txtE (t.take j) j (t.drop j))) (fun i _ => n - (intOf i).toNat)
    case atStart => exact ⟨0, by omega, rfl, HMP, HBX, HB2, Lib.hid TxtOk.nil, Lib.hid rfl⟩
    case round =>
      obtain ⟨j, hj, rfl, HMj, HXj, HBj, HOj, HEj⟩ := hrel
      by_cases hlt : j < n
      · obtain ⟨x, hx⟩ : ∃ x, t[j]? = some x := ⟨_, List.getElem?_eq_getElem (by rw [HN.out]; exact hlt)⟩
        obtain ⟨bA, off, rfl, c0, c1⟩ := (HR.out.below HBj.out).macs hx
        have HXS := Lib.hid (HT.out x (List.mem_of_getElem? hx))
        have HTA := Lib.hid (txtE_at hx)
        have HTK : Hid (t.take (j + 1) = t.take j ++ [x]) := Lib.hid (by rw [List.take_add_one, hx]; rfl)
        obtain ⟨xn, xv⟩ := x
        dsimp only at c0 c1 HXS HTA
        obtain ⟨bn, hbn⟩ : ∃ bn, sv xn = .string bn := ⟨_, rfl⟩
        obtain ⟨bv, hbv⟩ : ∃ bv, sv xv = .string bv := ⟨_, rfl⟩
        rw [hbn] at c0
        rw [hbv] at c1
        have HBN := Lib.hid hbn
        have HBV := Lib.hid hbv
        have hb5 := below_new (Below.refl wr.heap.size wr) (.cells #[.string bn, .string bv] 61)
        have HM5 := Lib.hid (HMj.out.below hb5 HMj.out.lt)
        have HX5 := Lib.hid (HXj.out.below hb5 HXj.out.lt)
        have HB5 := Lib.hid (below_then HBj.out hb5)
        have HK5 := Lib.hid (Blk.new wr #[.string bn, .string bv] 61)
        have HNE := Lib.hid (And.intro (Nat.ne_of_gt HMj.out.lt) (Nat.ne_of_gt HXj.out.lt))
        have k1 : (j : Int) < (n : Int) := by omega
        clear hx hbn hbv hb5
        go_upto_region 7 with fail
        generalize wr.alloc (.cells #[.string bn, .string bv] 61) = w5 at *
        generalize wr.heap.size = k5 at *
        have y0 := HK5.out.cell (j := 0) rfl
        have d0 := HX5.out.cell (j := 0) rfl
        have HLKK := Lib.hid (fun q => lookTxt (w := w5.drewN q) (HM5.out.below (below_of_drewN w5 q) HM5.out.lt) HOj.out xn HXS.out.1)
        have hq : ∃ (vt : Value) (is : Bool), Hid (is = decide (xn ∈ (t.take j).map (·.1))) ∧ ∀ q, (Instr.lookup 111 (.map (some b)) (.string bn) true).run Tryz.prog (w5.drewN q) = .ok (.tuple #[vt, .bool is]) (w5.drewN q) := by
          have hb' : (⟨xn.toArray⟩ : ByteArray) = bn := by have := HBN.out; unfold sv at this; injection this
          cases hl : txtAt (t.take j) xn with
          | none =>
            refine ⟨.string ⟨#[]⟩, false, Lib.hid (decide_eq_false (txtAt_none hl)).symm, fun q => ?_⟩
            rcases HLKK.out q with ⟨_, h⟩ | ⟨s2, h, _⟩
            · rw [← hb']; exact h
            · rw [hl] at h; cases h
          | some s2 =>
            refine ⟨sv s2, true, Lib.hid (decide_eq_true (List.mem_map.2 ⟨(xn, s2), txtAt_mem hl, rfl⟩)).symm, fun q => ?_⟩
            rcases HLKK.out q with ⟨h, _⟩ | ⟨s3, h, h2⟩
            · rw [hl] at h; cases h
            · rw [hl] at h; injection h with h; rw [h, ← hb']; exact h2
        obtain ⟨vt, is, HIS, LK⟩ := hq
        go_quiet (fail)
        clear LK HLKK y0 d0
        have HM6 := Lib.hid (HM5.out.below (below_of_drewN w5 nq) HM5.out.lt)
        have HX6 := Lib.hid (HX5.out.below (below_of_drewN w5 nq) HX5.out.lt)
        have HB6 := Lib.hid (below_then HB5.out (below_of_drewN w5 nq))
        have HK6 := Lib.hid (HK5.out.below (below_of_drewN w5 nq) HK5.out.lt)
        clear HM5 HX5 HB5 HK5
        generalize w5.drewN nq = w6 at *
        have y0 := HK6.out.cell (j := 0) rfl
        have y1 := HK6.out.cell (j := 1) rfl
        have HC : Hid (∀ W, Calls Tryz.prog 64 #[.string bn] W fun e w' => e = .returned (.int .i64 (nameErr xn)) ∧ W = w') := Lib.hid (fun W => by rw [← HBN.out]; exact nmCheck_any xn W HXS.out.1)
        cases hg : goodName xn with
        | false =>
          have he : nameErr xn = 3 := by unfold nameErr; rw [hg]; rfl
          have HE : Hid (linesF s t = (3, [])) := Lib.hid (by
            have e : txtE [] 0 t = 3 := by rw [HEj.out, HTA.out, if_pos hg]
            unfold linesF
            rw [if_neg (by rw [HN.out]; exact H20.out), e, if_pos (by decide)])
          rw [he] at HC
          clear hg he
          go_wp2_with fail
          refine (HC.out _).mono ?_
          rintro e w7 ⟨rfl, rfl⟩
          go_wp2_with fail
          go_ret2
          exact linPost_no HB6.out HE.out
        | true =>
          have HGD := Lib.hid hg
          have he : nameErr xn = 0 := by unfold nameErr; rw [hg]; rfl
          rw [he] at HC
          cases is with
          | true =>
            have hin : xn ∈ (t.take j).map (·.1) := of_decide_eq_true HIS.out.symm
            have HE : Hid (linesF s t = (6, [])) := Lib.hid (by
              have e : txtE [] 0 t = 6 := by rw [HEj.out, HTA.out, if_neg (by rw [hg]; decide), if_pos hin]
              unfold linesF
              rw [if_neg (by rw [HN.out]; exact H20.out), e, if_pos (by decide)])
            clear hg he hin
            go_wp2_with fail
            refine (HC.out _).mono ?_
            rintro e w7 ⟨rfl, rfl⟩
            go_wp2_with fail
            go_ret2
            exact linPost_no HB6.out HE.out
          | false =>
            have hin : xn ∉ (t.take j).map (·.1) := of_decide_eq_false HIS.out.symm
            have HIN := Lib.hid hin
            have HNX : Hid (txtE [] 0 t = txtE (t.take (j + 1)) (j + 1) (t.drop (j + 1))) := Lib.hid (by rw [HEj.out, HTA.out, if_neg (by rw [hg]; decide), if_neg hin])
            have HOK : Hid (TxtOk (t.take (j + 1))) := Lib.hid (by
              rw [HTK.out]
              exact HOj.out.snoc hin hg HXS.out.2 (by rw [List.length_take]; have := H20.out; have := HN.out; omega))
            have HUP : Hid ((Instr.mapUpdate 111 (.map (some b)) (.string bn) (.string bv)).run Tryz.prog w6.drew = .ok () (setBlock w6.drew b (.map (entS (txtM (t.take (j + 1)))) (txtM (t.take (j + 1))).length))) := Lib.hid (by
              have h := run_newS (P := Tryz.prog) strKindF txtKind (w := w6.drew) (MapS.below HM6.out (Below.drew (Below.refl _ _)) HM6.out.lt) HOj.out.keys xn (.string bv) (by have := HXS.out.1; unfold maxLen; omega) (by rw [keys_txtM]; exact hin)
              have e : txtM (t.take (j + 1)) = txtM (t.take j) ++ [(xn, .string bv)] := by rw [HTK.out, txtM_snoc, ← HBV.out]
              rw [e, ← HBN.out]
              exact h)
            clear hg he hin
            go_wp2_with fail
            refine (HC.out _).mono ?_
            rintro e w7 ⟨rfl, rfl⟩
            go_upto_region 12 with fail
            have hup := HUP.out
            have d0 := HX6.out.cell (j := 0) rfl
            go_region
            have HM8 : Hid (MapS (setBlock w6.drew b (.map (entS (txtM (t.take (j + 1)))) (txtM (t.take (j + 1))).length)) b (txtM (t.take (j + 1)))) := Lib.hid (mapS_put (HM6.out.below (Below.drew (Below.refl _ _)) HM6.out.lt) _)
            have HX8 : Hid (Blk (setBlock w6.drew b (.map (entS (txtM (t.take (j + 1)))) (txtM (t.take (j + 1))).length)) (b + 1) 113 [.map (some b), .slice none 0 0, .int .i64 0, .slice none 0 0]) := Lib.hid (by
              have h := HX6.out.below (Below.drew (Below.refl _ _)) HX6.out.lt
              unfold Blk at h ⊢
              rw [setB_other _ _ (by omega)]
              exact h)
            have HB8 : Hid (Below w.heap.size w (setBlock w6.drew b (.map (entS (txtM (t.take (j + 1)))) (txtM (t.take (j + 1))).length))) := Lib.hid (below_setB (below_then HB6.out (Below.drew (Below.refl _ _))) (by rw [HBB.out]; exact Nat.le_refl _) _)
            clear hup d0
            generalize setBlock w6.drew b (.map (entS (txtM (t.take (j + 1)))) (txtM (t.take (j + 1))).length) = w8 at *
            go_wp2_with fail
            go_roundw
            case rel => exact ⟨j + 1, by omega, by go_num, HM8, HX8, HB8, HOK, HNX⟩
            case measure => simp [intOf]; omega
      · have hjn : j = n := by omega
        have HTX : Hid (txtE [] 0 t = 0) := Lib.hid (by rw [HEj.out]; exact txtE_end (by rw [HN.out]; omega))
        have hTK : t.take j = t := List.take_of_length_le (by rw [HN.out]; omega)
        rw [hTK] at HMj HOj
        have HRA : Hid (RdA wr.heap.size (b + 1) b t [] 0 [] (.slice none 0 0) (.slice none 0 0) wr) := Lib.hid ⟨HXj.out.lt, HMj.out.lt, by omega, HXj.out, HMj.out, World.ownsRow_nil _ _ _ _, World.ownsRow_nil _ _ _ _, (fun g hg => by cases hg), Nat.le_refl _⟩
        have HLO := Lib.hid HXj.out.lt
        have HGl := Lib.hid (Nat.lt_of_lt_of_le HG.out HBj.out.size)
        have HGN : Hid (1 ≠ b + 1) := Lib.hid (by have := HG.out; have := HBB.out; omega)
        have HMXr := Lib.hid (cell_kept HMX.out HBj.out)
        have HRR := Lib.hid (rRead_any (t := t) (lo := wr.heap.size) (B := b + 1) (bm := b) (mx := mx) HOj.out HGl.out HGN.out (t.length + 1) [] s 0 [] _ _ wr HRA.out (OpOk.nil t) HSL.out (by omega) (by simp) HMXr.out)
        rw [HBS.out] at HRR
        have k1 : ¬ (j : Int) < (n : Int) := by omega
        clear hjn hTK
        go_wp2_with fail
        refine (HRR.out).mono ?_
        rintro e w9 ⟨m9, O9, vo9, vu9, rfl, hF9, hR9, hO9⟩
        have HR9 := Lib.hid hR9
        have HB9 := Lib.hid (hF9.toBelow HRA.out HBj.out (by rw [HBB.out]; omega))
        have HO9 := Lib.hid hO9
        clear hF9 hR9 hO9
        by_cases hz : (readA t (t.length + 1) [] s 0 []).1 = 0
        · obtain ⟨h1, h2⟩ := HO9.out hz
          have HE : Hid (linesF s t = (0, O9)) := Lib.hid (by
            unfold linesF
            rw [if_neg (by rw [HN.out]; exact H20.out), if_neg (by rw [HTX.out]; decide), if_neg (by rw [hz]; decide), h2])
          have y3 := HR9.out.box.cell (j := 3) rfl
          have HOW := Lib.hid (own_baseF (B' := w.heap.size) HR9.out.out HBj.out.size)
          have hsh := HR9.out.out.2
          have p1 : ((((readA t (t.length + 1) [] s 0 []).1 : Nat) : Int) != 0) = false := by rw [hz]; rfl
          clear hz h1 h2
          generalize (((readA t (t.length + 1) [] s 0 []).1 : Nat) : Int) = V at *
          rcases hsh with ⟨rfl, h0⟩ | ⟨g9, c9, _, rfl, _⟩
          · go_wp2_with fail
            go_ret2
            exact ⟨_, _, _, by rw [HE.out]; rfl, by rw [HE.out]; exact h0, by have h := HOW.out; rw [h0] at h; rw [HE.out]; exact h, HB9.out⟩
          · go_wp2_with fail
            go_ret2
            exact ⟨_, _, _, by rw [HE.out]; rfl, by rw [HE.out], by rw [HE.out]; exact HOW.out, HB9.out⟩
        · have HE : Hid (linesF s t = ((readA t (t.length + 1) [] s 0 []).1, [])) := Lib.hid (by
            unfold linesF
            rw [if_neg (by rw [HN.out]; exact H20.out), if_neg (by rw [HTX.out]; decide), if_pos hz])
          have p1 : ((((readA t (t.length + 1) [] s 0 []).1 : Nat) : Int) != 0) = true := by simp; omega
          generalize hv : (readA t (t.length + 1) [] s 0 []).1 = V at *
          clear hv hz
          go_wp2_with fail
          go_ret2
          exact linPost_no HB9.out HE.out
end Go.Proofs.YtoandhhkmkgmaaaGreatDoor
/- A file's lines, plain; a file as it lies; strings.Join of one or more texts by a blank. -/
namespace Go.Proofs.YtoandhhkmkgmaaaGreatDoor
open Go.RowKit

/-! ### Plain -/
def macLine (m : MacT) : List UInt8 := m.1 ++ [32, 61, 32] ++ m.2
def infLine (x : InfT) : List UInt8 := x.1 ++ x.2 ++ [32, 58]
def phoLines (p : List (List UInt8)) : List (List UInt8) := if p.length = 0 then [] else [phonyW ++ [32, 58, 32] ++ joinSp p]
def linesP (f : FileT) : List (List UInt8) := f.mac.map macLine ++ phoLines f.pho ++ f.inf.map infLine ++ f.rul.map rlText
theorem rl_text_join (r : RuleT) : joinSp (r.1 ++ [58] :: r.2) = rlText r := by
  by_cases h : 0 < r.1.length
  · exact join_text h
  · have e : r.1 = [] := List.length_eq_zero_iff.1 (by omega)
    unfold rlText
    rw [e]
    rfl
theorem joinSp_flat {p : List (List UInt8)} (h : ¬ p.length = 0) : [32] ++ joinSp p = p.flatMap fun s => 32 :: s := by
  cases p with
  | nil => exact absurd rfl h
  | cons x l => rfl
theorem joinSp_lens (p : List (List UInt8)) (h : ¬ p.length = 0) : (joinSp p).length + 1 = lens p p.length + p.length := by
  have h1 := congrArg List.length (joinSp_flat h)
  have h2 := tailSp_len p p.length
  unfold tailSp at h2
  rw [List.take_length] at h2
  rw [← h1] at h2
  simp at h2
  omega
/-- Sizes that a file's parts have where its lines are at most 2^20 bytes each. -/
structure SzF (f : FileT) : Prop where
  lin : ∀ s ∈ linesP f, s.length ≤ 1048639
  mac : f.mac.length ≤ 1048640
  inf : f.inf.length ≤ 1048640
  rul : f.rul.length ≤ 1048640
theorem SzF.macs {f : FileT} (h : SzF f) : ∀ m ∈ f.mac, m.1.length ≤ 1048640 ∧ m.2.length ≤ 1048640 := fun m hm => by
  have := h.lin (macLine m) (by unfold linesP; simp only [List.mem_append, List.mem_map]; exact .inl (.inl (.inl ⟨m, hm, rfl⟩)))
  unfold macLine at this
  simp at this
  omega
theorem SzF.infs {f : FileT} (h : SzF f) : ∀ m ∈ f.inf, m.1.length ≤ 1048640 ∧ m.2.length ≤ 1048640 := fun m hm => by
  have := h.lin (infLine m) (by unfold linesP; simp only [List.mem_append, List.mem_map]; exact .inl (.inr ⟨m, hm, rfl⟩))
  unfold infLine at this
  simp at this
  omega
theorem SzF.phos {f : FileT} (h : SzF f) : f.pho.length ≤ 1048641 ∧ lens f.pho f.pho.length ≤ 1048641 := by
  by_cases h0 : f.pho.length = 0
  · rw [h0]; exact ⟨by omega, by simp [lens]⟩
  · have := h.lin (phonyW ++ [32, 58, 32] ++ joinSp f.pho) (by unfold linesP phoLines; rw [if_neg h0]; simp)
    have h2 := joinSp_lens _ h0
    simp only [List.length_append] at this
    omega
theorem SzF.ruls {f : FileT} (h : SzF f) : ∀ r ∈ f.rul, (r.1 ++ [58] :: r.2).length ≤ 1048641 ∧ lens (r.1 ++ [58] :: r.2) (r.1 ++ [58] :: r.2).length ≤ 1048641 := fun r hr => by
  have := h.lin (rlText r) (by unfold linesP; simp only [List.mem_append, List.mem_map]; exact .inr ⟨r, hr, rfl⟩)
  rw [← rl_text_join] at this
  have h2 := joinSp_lens (r.1 ++ [58] :: r.2) (by simp)
  omega
theorem lens_mem {l : List (List UInt8)} {x : List UInt8} (h : x ∈ l) : x.length ≤ lens l l.length := by
  obtain ⟨k, hk⟩ := List.getElem?_of_mem h
  have h1 := lens_succ hk
  have h2 := lens_le l (k + 1)
  omega

/-! ### In memory -/
structure FileRd (A0 A1 A2 A3 : Option Addr) (f : FileT) (L : List RSlot) (w : World) : Prop where
  mac : Rd w A0 (macV f.mac)
  pho : Rd w A1 (f.pho.map sv)
  inf : Rd w A2 (macV f.inf)
  rul : RsRd A3 L w
  eq : rulesOf L = f.rul
theorem RsRd.below {A : Option Addr} {L : List RSlot} {w w' : World} (h : RsRd A L w) (hb : Below w.heap.size w w') : RsRd A L w' := ⟨h.rd.below hb, fun x hx => (h.each x hx).below hb⟩
theorem FileRd.below {A0 A1 A2 A3 : Option Addr} {f : FileT} {L : List RSlot} {w w' : World} (h : FileRd A0 A1 A2 A3 f L w) (hb : Below w.heap.size w w') : FileRd A0 A1 A2 A3 f L w' :=
  ⟨h.mac.below hb, h.pho.below hb, h.inf.below hb, h.rul.below hb, h.eq⟩
theorem FileRd.len {A0 A1 A2 A3 : Option Addr} {f : FileT} {L : List RSlot} {w : World} (h : FileRd A0 A1 A2 A3 f L w) : f.rul.length = L.length := by rw [← h.eq]; unfold rulesOf; simp
/-- A file that was read, as one that comes in. -/
theorem FileAt.rd {lo : Nat} {f : FileT} {L : List RSlot} {v0 v1 v2 v3 : Value} {w : World} (h : FileAt lo f L v0 v1 v2 v3 w) :
    ∃ A0 c0 A1 c1 A2 c2 A3 c3, v0 = .slice A0 f.mac.length c0 ∧ v1 = .slice A1 f.pho.length c1 ∧ v2 = .slice A2 f.inf.length c2 ∧ v3 = .slice A3 L.length c3 ∧ FileRd A0 A1 A2 A3 f L w ∧ f.pho.length ≤ c1 := by
  have o0 := h.own ⟨71, 2, v0, f.mac.length, macV f.mac⟩ (by unfold rowsF; simp)
  have o1 := h.own ⟨9, 1, v1, f.pho.length, f.pho.map sv⟩ (by unfold rowsF; simp)
  have o2 := h.own ⟨85, 2, v2, f.inf.length, macV f.inf⟩ (by unfold rowsF; simp)
  have o3 := h.own ⟨78, 2, v3, L.length, rsV L⟩ (by unfold rowsF; simp)
  obtain ⟨A0, c0, e0⟩ := slice_ofF o0
  obtain ⟨A1, c1, e1⟩ := slice_ofF o1
  obtain ⟨A2, c2, e2⟩ := slice_ofF o2
  obtain ⟨A3, c3, e3⟩ := slice_ofF o3
  dsimp only at e0 e1 e2 e3 o0 o1 o2 o3
  subst e0 e1 e2 e3
  exact ⟨A0, c0, A1, c1, A2, c2, A3, c3, rfl, rfl, rfl, rfl, ⟨Rd.own2 o0, Rd.own2 o1, Rd.own2 o2, ⟨Rd.own2 o3, fun x hx => ⟨(h.each x hx).t, (h.each x hx).n, (h.each x hx).tb, (h.each x hx).nb⟩⟩, h.rul⟩, own_room o1⟩

/-! ### strings.Join by a blank -/
set_option maxRecDepth 100000 in
set_option maxHeartbeats 1000000 in
theorem joinOne_any {A : Option Addr} {c : Nat} (x : List UInt8) (w : World) (hr : Rd w A ([x].map sv)) (_hc : 1 ≤ c) :
    Calls Tryz.prog 95 #[.slice A 1 c, .string ⟨#[32]⟩] w fun e w' => e = .returned (.string ⟨x.toArray⟩) ∧ Below w.heap.size w w' := by
  obtain ⟨b, off, rfl, hc0⟩ := hr.scell (k := 0) rfl
  rw [Nat.add_zero] at hc0
  generalize (⟨x.toArray⟩ : ByteArray) = bx at *
  go_enter Tryz.func95, Tryz.ntmps95
  go_wp2_with fail
  go_ret
  exact ⟨rfl, Below.refl _ _⟩
theorem joinSpN_any {A : Option Addr} {n c : Nat} (l : List (List UInt8)) (w : World) (hr : Rd w A (l.map sv)) (hn : l.length = n) (h1 : 1 ≤ n) (hb : n ≤ 2097152) (hnc : n ≤ c) (hs : lens l n ≤ 1099511627776) :
    Calls Tryz.prog 95 #[.slice A n c, .string ⟨#[32]⟩] w fun e w' => e = .returned (.string ⟨(joinSp l).toArray⟩) ∧ Below w.heap.size w w' := by
  match l, hr, hn, hs with
  | [], _, hn, _ => simp at hn; omega
  | [x], hr, hn, _ =>
    obtain rfl : n = 1 := by simpa using hn.symm
    have : joinSp [x] = x := by unfold joinSp; simp
    rw [this]
    exact joinOne_any x w hr hnc
  | x :: y :: l, hr, hn, hs => exact joinSp_any x (y :: l) w hr (by rw [← hn]; rfl) (by rw [← hn]; simp) hb hnc hs
end Go.Proofs.YtoandhhkmkgmaaaGreatDoor
/- file.Load: the walk. -/
namespace Go.Proofs.YtoandhhkmkgmaaaGreatDoor
open Go.RowKit

/-! ### Lines that come out are no longer than the texts -/
theorem stepsA_each {t : List TxtT} {rec : RecT} {op : List (List UInt8)} {q : Nat} (h : ∀ op s m O, s.length ≤ q → (∀ y ∈ O, y.length ≤ q + 1) → (rec op s m O).1 = 0 → ∀ y ∈ (rec op s m O).2.2, y.length ≤ q + 1) (ht : ∀ x ∈ t, x.2.length ≤ q) :
    ∀ (ls : List (List UInt8)) (m : Nat) (O : List (List UInt8)), (∀ y ∈ ls, y.length ≤ q + 1) → (∀ y ∈ O, y.length ≤ q + 1) → (stepsA t rec op ls m O).1 = 0 → ∀ y ∈ (stepsA t rec op ls m O).2.2, y.length ≤ q + 1
  | [], m, O, _, hO, _ => hO
  | x :: ls, m, O, hl, hO, h0 => by
    unfold stepsA at h0 ⊢
    split at h0
    · cases h0
    · rename_i h1
      rw [if_neg h1]
      split at h0
      · rename_i h2
        rw [if_pos h2]
        refine stepsA_each h ht ls (m + 1) (O ++ [x]) (fun y hy => hl y (List.mem_cons_of_mem _ hy)) (fun y hy => ?_) h0
        rcases List.mem_append.1 hy with hy | hy
        · exact hO y hy
        · rw [List.mem_singleton.1 hy]; exact hl x List.mem_cons_self
      · rename_i h2
        rw [if_neg h2]
        split at h0
        · cases h0
        · rename_i h3
          rw [if_neg h3]
          split at h0
          · cases h0
          · rename_i h4
            rw [if_neg h4]
            split at h0
            · cases h0
            · rename_i h5
              rw [if_neg h5]
              split at h0
              · rename_i h6; exact absurd h0 h6
              · rename_i h6
                rw [if_neg h6]
                refine stepsA_each h ht ls _ _ (fun y hy => hl y (List.mem_cons_of_mem _ hy)) (h _ _ _ _ ?_ hO (Decidable.byContradiction h6)) h0
                cases hx : txtAt t (w1L x) with
                | none => exact absurd hx h4
                | some s => exact ht _ (txtAt_mem hx)
theorem readA_each {t : List TxtT} {q : Nat} (ht : ∀ x ∈ t, x.2.length ≤ q) : ∀ d op s m O, s.length ≤ q → (∀ y ∈ O, y.length ≤ q + 1) → (readA t d op s m O).1 = 0 → ∀ y ∈ (readA t d op s m O).2.2, y.length ≤ q + 1
  | 0, op, s, m, O, _, _, h0 => by simp [readA] at h0
  | d + 1, op, s, m, O, hs, hO, h0 => by
    unfold readA at h0 ⊢
    split at h0
    · rename_i h; exact absurd h0 h
    · rename_i h
      rw [if_neg h]
      exact stepsA_each (readA_each ht d) ht _ m O (fun y hy => by have := (linesT_each s y hy).2; omega) hO h0
theorem linesF_each {s : List UInt8} {t : List TxtT} {q : Nat} (hs : s.length ≤ q) (ht : ∀ x ∈ t, x.2.length ≤ q) : ∀ y ∈ (linesF s t).2, y.length ≤ q + 1 := by
  unfold linesF
  split
  · intro y hy; cases hy
  · split
    · intro y hy; cases hy
    · split
      · intro y hy; cases hy
      · rename_i h
        exact readA_each ht _ _ _ _ _ hs (fun y hy => by cases hy) (Decidable.byContradiction h)
theorem linesF_len {s : List UInt8} {t : List TxtT} : (linesF s t).2.length ≤ 200 := by
  unfold linesF
  split
  · simp
  · split
    · simp
    · split
      · simp
      · rename_i h
        have := readA_many t (t.length + 1) [] s 0 [] (by omega) (by simp) (Decidable.byContradiction h)
        dsimp only
        omega
/-- file.Load: error, file. -/
noncomputable def loadF (s : List UInt8) (t : List TxtT) : Nat × FileT := if (linesF s t).1 ≠ 0 then ((linesF s t).1, emptyF) else ((fileP (linesF s t).2).1, (fileP (linesF s t).2).2.2)
/-! ### A file while a block of no texts is written -/
theorem rd_putP {w : World} {A : Option Addr} {xs : List (List UInt8)} {b : Nat} {T : TypeId} {vs : List Value} (h : Rd w A (xs.map sv)) (hb : Blk w b T vs) (hv : ∀ v ∈ vs, ∀ s, v ≠ .string s) (u0 u1 u2 u3 : Value) : Rd (put4P w b u0 u1 u2 u3) A (xs.map sv) := fun hp => by
  obtain ⟨g, off, hA, hlt, hc⟩ := h hp
  have hne : g ≠ b := fun e => by
    subst e
    rw [List.length_map] at hp
    have hx := List.getElem?_eq_getElem hp
    have h0 := hc 0 (sv xs[0]) (by rw [List.getElem?_map, hx]; rfl)
    unfold Blk at hb
    unfold World.cell? at h0
    rw [hb] at h0
    simp at h0
    obtain ⟨_, h1⟩ := List.getElem?_eq_some_iff.1 h0
    exact hv _ (List.getElem_mem _) _ h1
  refine ⟨g, off, hA, by unfold put4P; simpa using hlt, fun j u hu => ?_⟩
  rw [World.cell?_of_block (w := w)]
  · exact hc j u hu
  · unfold put4P
    rw [Below.heap_setCell _ _ _ _ hne, Below.heap_setCell _ _ _ _ hne, Below.heap_setCell _ _ _ _ hne, Below.heap_setCell _ _ _ _ hne]
theorem FileAt.put4 {lo lo' b : Nat} {T : TypeId} {f : FileT} {L : List RSlot} {v0 v1 v2 v3 : Value} {w : World} {vs : List Value} (h : FileAt lo f L v0 v1 v2 v3 w) (hk : Blk w b T vs) (hv : ∀ v ∈ vs, ∀ s, v ≠ .string s) (hb : b < lo) (hb' : lo' ≤ lo) (u0 u1 u2 u3 : Value) : FileAt lo' f L v0 v1 v2 v3 (put4P w b u0 u1 u2 u3) :=
  ⟨fun r hr => own_baseF (own_setB (own_setB (own_setB (own_setB (h.own r hr) hb u0) hb u1) hb u2) hb u3) hb',
    fun x hx => by
      have q := h.each x hx
      exact ⟨rd_putP q.t hk hv _ _ _ _, rd_putP q.n hk hv _ _ _ _, q.tl, q.nl, q.tb, q.nb, q.tc, q.nc, q.ts, q.ns⟩, h.rul⟩
def LoadPost (r : Nat × FileT) (w : World) (e : Ending) (w' : World) : Prop :=
  Below w.heap.size w w' ∧ ∃ (L : List RSlot) (v0 v1 v2 v3 : Value), e = .returned (.tuple #[.agg #[v0, v1, v2, v3], .int .i64 ((r.1 : Nat) : Int)]) ∧ FileAt w.heap.size r.2 L v0 v1 v2 v3 w'
theorem LinPost.toRd {s : List UInt8} {t : List TxtT} {w w' : World} {A : Option Addr} {n c : Nat} (h : w'.ownsRow w.heap.size 9 1 (.slice A n c) n ((linesF s t).2.map sv)) : Rd w' A ((linesF s t).2.map sv) := Rd.of_own h
set_option maxRecDepth 100000 in
set_option maxHeartbeats 4000000 in
theorem fLoad_any {A : Option Addr} {n c : Nat} (s : List UInt8) (t : List TxtT) (w : World) (hr : Rd w A (macV t)) (hn : t.length = n) (hs : s.length ≤ 1000000) (ht : ∀ x ∈ t, x.1.length ≤ 9223372036854775807 ∧ x.2.length ≤ 1000000) (hnb : n ≤ 9223372036854775807)
    (mx : Int) (hmx : w.cell? ⟨1, 0, none⟩ = some (.int .i64 mx)) :
    Calls Tryz.prog 30 #[sv s, .slice A n c] w (LoadPost (loadF s t) w) := by
  have h0 := lt_of_cell' hmx
  have HMX := Lib.hid (fun W' (hb : Below w.heap.size w W') => cell_belowF hmx h0 hb)
  have HM0 := Lib.hid (fun W' (hb : Below w.heap.size w W') => Nat.lt_of_lt_of_le h0 hb.size)
  have HLE := Lib.hid (linesF_each (q := 1000000) hs (fun x hx => (ht x hx).2))
  have CL := Lib.hid (fun W (hW : Below w.heap.size w W) => fLinesF_any (c := c) s t W (hr.below hW) hn (by omega) (fun x hx => ⟨(ht x hx).1, by have := (ht x hx).2; omega⟩) hnb mx (cell_belowF hmx h0 hW))
  obtain ⟨bs, hbs⟩ : ∃ bs, sv s = .string bs := ⟨_, rfl⟩
  rw [hbs] at CL ⊢
  have HB0 := Lib.hid (below_new (Below.refl w.heap.size w) (.cells #[.slice none 0 0, .slice none 0 0, .slice none 0 0, .slice none 0 0] 27))
  have HK0 := Lib.hid (Blk.new w #[.slice none 0 0, .slice none 0 0, .slice none 0 0, .slice none 0 0] 27)
  clear hr hn hs ht hnb hmx h0 hbs
  go_enter Tryz.func30, Tryz.ntmps30
  go_upto_region 1 with fail
  generalize w.alloc (.cells #[.slice none 0 0, .slice none 0 0, .slice none 0 0, .slice none 0 0] 27) = w0 at *
  generalize hb : w.heap.size = b at *
  have HBB := Lib.hid hb
  clear hb
  go_wp2_with fail
  refine (CL.out _ HB0.out).mono ?_
  rintro e w1 ⟨AL, nl, cl, rfl, hnl, hown, hb1⟩
  have HB1 := Lib.hid (HB0.out.trans (hb1.mono (Nat.le_of_lt HK0.out.lt)))
  have HK1 := Lib.hid (HK0.out.below hb1 HK0.out.lt)
  have HRL := Lib.hid (Rd.of_own hown)
  have HNL := Lib.hid hnl
  clear hnl hown hb1
  by_cases hz : (linesF s t).1 = 0
  · have HLF : Hid (loadF s t = ((fileP (linesF s t).2).1, (fileP (linesF s t).2).2.2)) := Lib.hid (by unfold loadF; rw [if_neg (fun h => h hz)])
    have p1 : ((((linesF s t).1 : Nat) : Int) != 0) = false := by rw [hz]; rfl
    generalize (((linesF s t).1 : Nat) : Int) = V at *
    have HPA := Lib.hid (fParse_any (A := AL) (n := nl) (c := cl) (linesF s t).2 w1 HRL.out HNL.out (fun y hy => by have := HLE.out y hy; omega) mx (HMX.out _ HB1.out) (HM0.out _ HB1.out))
    clear hz
    go_wp2_with fail
    refine HPA.out.mono ?_
    rintro e w2 ⟨hb2, M, v0, v1, v2, v3, rfl, hfa⟩
    have HB2 := Lib.hid (HB1.out.trans (hb2.mono (Nat.le_of_lt HK1.out.lt)))
    have HK2 := Lib.hid (HK1.out.below hb2 HK1.out.lt)
    obtain ⟨G0, gc0, G1, gc1, G2, gc2, G3, gc3, rfl, rfl, rfl, rfl, _⟩ := hfa.rd
    generalize (fileP (linesF s t).2).2.2 = g at *
    generalize g.mac.length = gn0 at *
    generalize g.pho.length = gn1 at *
    generalize g.inf.length = gn2 at *
    generalize M.length = gn3 at *
    have hb3 := below_new (Below.refl w2.heap.size w2) (.cells #[.slice G0 gn0 gc0, .slice G1 gn1 gc1, .slice G2 gn2 gc2, .slice G3 gn3 gc3] 27)
    have HF3 := Lib.hid (hfa.below hb3)
    have HK3 := Lib.hid (HK2.out.below hb3 HK2.out.lt)
    have HB3 := Lib.hid (HB2.out.trans (hb3.mono (Nat.le_of_lt HK2.out.lt)))
    have HKF3 := Lib.hid (Blk.new w2 #[.slice G0 gn0 gc0, .slice G1 gn1 gc1, .slice G2 gn2 gc2, .slice G3 gn3 gc3] 27)
    have HLO := Lib.hid HK1.out.lt
    clear hfa hb2 hb3
    go_upto_region 5 with fail
    generalize w2.alloc (.cells #[.slice G0 gn0 gc0, .slice G1 gn1 gc1, .slice G2 gn2 gc2, .slice G3 gn3 gc3] 27) = w3 at *
    generalize w2.heap.size = k3 at *
    have a0 := HKF3.out.cell (j := 0) rfl
    have a1 := HKF3.out.cell (j := 1) rfl
    have a2 := HKF3.out.cell (j := 2) rfl
    have a3 := HKF3.out.cell (j := 3) rfl
    have c0 := HK3.out.cell (j := 0) rfl
    have c1 := HK3.out.cell (j := 1) rfl
    have c2 := HK3.out.cell (j := 2) rfl
    have c3 := HK3.out.cell (j := 3) rfl
    have f0 := HK3.out.free 0
    have f1 := HK3.out.free 1
    have f2 := HK3.out.free 2
    have f3 := HK3.out.free 3
    go_wp2_with fail
    have RZ := Lib.hid (HK3.out.put4P (.slice G0 gn0 gc0) (.slice G1 gn1 gc1) (.slice G2 gn2 gc2) (.slice G3 gn3 gc3))
    have BZ := Lib.hid (below_put4P HB3.out (Nat.le_refl _) (.slice G0 gn0 gc0) (.slice G1 gn1 gc1) (.slice G2 gn2 gc2) (.slice G3 gn3 gc3))
    have FZ := Lib.hid (HF3.out.put4 (lo' := b) HK3.out (by intro v hv s; simp at hv; subst hv; intro h; cases h) HLO.out (Nat.le_of_lt HLO.out) (.slice G0 gn0 gc0) (.slice G1 gn1 gc1) (.slice G2 gn2 gc2) (.slice G3 gn3 gc3))
    show bodyPost _ _ _ _ _ (put4P w3 b (.slice G0 gn0 gc0) (.slice G1 gn1 gc1) (.slice G2 gn2 gc2) (.slice G3 gn3 gc3))
    generalize put4P w3 b (.slice G0 gn0 gc0) (.slice G1 gn1 gc1) (.slice G2 gn2 gc2) (.slice G3 gn3 gc3) = wz at *
    have g0 := RZ.out.cell (j := 0) rfl
    have g1 := RZ.out.cell (j := 1) rfl
    have g2 := RZ.out.cell (j := 2) rfl
    have g3 := RZ.out.cell (j := 3) rfl
    refine bodyPost_ret (v := .tuple #[.agg #[.slice G0 gn0 gc0, .slice G1 gn1 gc1, .slice G2 gn2 gc2, .slice G3 gn3 gc3], .int .i64 ((fileP (linesF s t).2).1 : Int)]) (by simp [results, Tryz.results30, go_sem, g0, g1, g2, g3]) rfl ?_
    exact ⟨by rw [HBB.out]; exact BZ.out, M, _, _, _, _, by rw [HLF.out], by rw [HLF.out, HBB.out]; exact FZ.out⟩
  · have HLF : Hid (loadF s t = ((linesF s t).1, emptyF)) := Lib.hid (by unfold loadF; rw [if_pos hz])
    have p1 : ((((linesF s t).1 : Nat) : Int) != 0) = true := by simp; omega
    generalize hv : (linesF s t).1 = V at *
    clear hv hz
    have c0 := HK1.out.cell (j := 0) rfl
    have c1 := HK1.out.cell (j := 1) rfl
    have c2 := HK1.out.cell (j := 2) rfl
    have c3 := HK1.out.cell (j := 3) rfl
    have f0 := HK1.out.free 0
    have f1 := HK1.out.free 1
    have f2 := HK1.out.free 2
    have f3 := HK1.out.free 3
    go_wp2_with fail
    have RZ := Lib.hid (HK1.out.put4P (.slice none 0 0) (.slice none 0 0) (.slice none 0 0) (.slice none 0 0))
    have BZ := Lib.hid (below_put4P HB1.out (Nat.le_refl _) (.slice none 0 0) (.slice none 0 0) (.slice none 0 0) (.slice none 0 0))
    show bodyPost _ _ _ _ _ (put4P w1 b (.slice none 0 0) (.slice none 0 0) (.slice none 0 0) (.slice none 0 0))
    generalize put4P w1 b (.slice none 0 0) (.slice none 0 0) (.slice none 0 0) (.slice none 0 0) = wz at *
    have g0 := RZ.out.cell (j := 0) rfl
    have g1 := RZ.out.cell (j := 1) rfl
    have g2 := RZ.out.cell (j := 2) rfl
    have g3 := RZ.out.cell (j := 3) rfl
    refine bodyPost_ret (v := .tuple #[.agg #[.slice none 0 0, .slice none 0 0, .slice none 0 0, .slice none 0 0], .int .i64 (V : Int)]) (by simp [results, Tryz.results30, go_sem, g0, g1, g2, g3]) rfl ?_
    exact ⟨by rw [HBB.out]; exact BZ.out, [], _, _, _, _, by rw [HLF.out], by rw [HLF.out]; exact FileAt.none _ _⟩
end Go.Proofs.YtoandhhkmkgmaaaGreatDoor
/- The reference's including: what it keeps, what it answers; a region's step where two operations may come up. -/
namespace Go.Proofs.YtoandhhkmkgmaaaGreatDoor
open Go.RowKit

/-- A slice that came in, away from the counter's cell. -/
structure RIn (lo M : Nat) (A : Option Addr) (xs : List Value) (W : World) : Prop where
  rd : Rd W A xs
  far : 0 < xs.length → ∀ g off, A = some ⟨g, off, none⟩ → g < lo ∧ g ≠ M
section
variable {lo M : Nat} {A : Option Addr} {xs : List Value} {W W' : World}
theorem RIn.but (h : RIn lo M A xs W) (hb : ButLo lo M W W') : RIn lo M A xs W' := ⟨fun hp => by
  obtain ⟨b, off, hA, hlt, hc⟩ := h.rd hp
  obtain ⟨h1, h2⟩ := h.far hp b off hA
  exact ⟨b, off, hA, Nat.lt_of_lt_of_le hlt hb.size, fun j u hu => by rw [World.cell?_of_block (hb.block b h1 h2)]; exact hc j u hu⟩, h.far⟩
theorem RIn.up {lo' : Nat} (h : RIn lo M A xs W) (hl : lo ≤ lo') : RIn lo' M A xs W := ⟨h.rd, fun hp g off hA => ⟨Nat.lt_of_lt_of_le (h.far hp g off hA).1 hl, (h.far hp g off hA).2⟩⟩
theorem RIn.of_own {base n c : Nat} {e : TypeId} (h : W.ownsRow base e 1 (.slice A n c) n xs) (hl : W.heap.size ≤ lo) (hM : M < base) : RIn lo M A xs W := ⟨Rd.of_own h, fun _ g off hA => by
  subst hA
  have := h.lt g rfl
  omega⟩
theorem ButLo.down {lo' : Nat} (h : ButLo lo M W W') (hl : lo' ≤ lo) : ButLo lo' M W W' := ⟨h.os, h.tape, h.output, h.size, fun k h1 h2 => h.block k (Nat.lt_of_lt_of_le h1 hl) h2⟩
theorem ButLo.of_below {b : Nat} (h : Below b W W') (hl : lo ≤ b) : ButLo lo M W W' := (ButLo.refl lo M W).below h hl
theorem own_but {base n z : Nat} {e : TypeId} {v : Value} (h : W.ownsRow base e z v n xs) (hb : ButLo lo M W W') (hM : M < base) (hl : W.heap.size ≤ lo) : W'.ownsRow base e z v n xs := by
  obtain ⟨h1, h | ⟨g, cap, cur, hv, hg, hh, hr⟩⟩ := h
  · exact ⟨h1, .inl h⟩
  · have hlt : g < W.heap.size := (Array.getElem?_eq_some_iff.1 hh).1
    exact ⟨h1, .inr ⟨g, cap, cur, hv, hg, (hb.block g (by omega) (by omega)).trans hh, hr⟩⟩
theorem cell_but {g j : Nat} {u : Value} (h : W.cell? ⟨g, j, none⟩ = some u) (hb : ButLo lo M W W') (hg : g < lo) (hM : g ≠ M) : W'.cell? ⟨g, j, none⟩ = some u := (World.cell?_of_block (hb.block g hg hM)).trans h
end
/-- Where a name last stands. -/
def KAt (t : List TxtT) (y : List UInt8) (j : Nat) (k : Int) : Prop := (k = -1 ∧ ∀ i < j, ∀ x, t[i]? = some x → x.1 ≠ y) ∨ ∃ i s, k = ((i : Nat) : Int) ∧ i < j ∧ t[i]? = some (y, s)
theorem KAt.zero (t : List TxtT) (y : List UInt8) : KAt t y 0 (-1) := .inl ⟨rfl, fun _ hi => absurd hi (Nat.not_lt_zero _)⟩
theorem KAt.hit {t : List TxtT} {y : List UInt8} {j : Nat} {x : TxtT} (hx : t[j]? = some x) (h : x.1 = y) : KAt t y (j + 1) (j : Int) := .inr ⟨j, x.2, rfl, Nat.lt_succ_self _, by rw [hx, ← h]⟩
theorem KAt.miss {t : List TxtT} {y : List UInt8} {j : Nat} {k : Int} {x : TxtT} (hk : KAt t y j k) (hx : t[j]? = some x) (h : x.1 ≠ y) : KAt t y (j + 1) k := by
  rcases hk with ⟨h1, h2⟩ | ⟨i, s, h1, h2, h3⟩
  · refine .inl ⟨h1, fun i hi z hz => ?_⟩
    rcases Nat.lt_or_ge i j with q | q
    · exact h2 i q z hz
    · obtain rfl : i = j := by omega
      rw [hx] at hz
      injection hz with hz
      subst hz
      exact h
  · exact .inr ⟨i, s, h1, by omega, h3⟩
theorem KAt.none {t : List TxtT} {y : List UInt8} {k : Int} (hk : KAt t y t.length k) (h : txtAt t y = none) : k = -1 := by
  rcases hk with ⟨h1, _⟩ | ⟨i, s, _, _, h3⟩
  · exact h1
  · exact absurd (List.mem_map.2 ⟨(y, s), List.mem_of_getElem? h3, rfl⟩) (txtAt_none h)
theorem KAt.some {t : List TxtT} {y s : List UInt8} {k : Int} (hk : KAt t y t.length k) (hd : (t.map (·.1)).Nodup) (h : txtAt t y = some s) : ∃ i : Nat, k = (i : Int) ∧ t[i]? = some (y, s) := by
  rcases hk with ⟨_, h2⟩ | ⟨i, s', h1, _, h3⟩
  · obtain ⟨i, hi⟩ := List.mem_iff_getElem?.1 (txtAt_mem h)
    exact absurd rfl (h2 i (List.getElem?_eq_some_iff.1 hi).1 _ hi)
  · refine ⟨i, h1, ?_⟩
    have := txtAt_at hd h3
    rw [h] at this
    injection this with this
    rw [this]; exact h3
theorem KAt.range {t : List TxtT} {y : List UInt8} {j : Nat} {k : Int} (hk : KAt t y j k) : -1 ≤ k ∧ k < (j : Int) := by
  rcases hk with ⟨h1, _⟩ | ⟨i, s, h1, h2, _⟩ <;> omega
/-! ### What it answers -/
def IncPost (M : Nat) (r : ResT) (W : World) (e : Ending) (W' : World) : Prop :=
  ∃ m' A n c, e = .returned (.tuple #[.slice A n c, .int .i64 ((r.1 : Nat) : Int)]) ∧ Blk W' M 3 [.int .i64 ((m' : Nat) : Int)] ∧ ButLo W.heap.size M W W' ∧ r.2.2.length = n ∧ W'.ownsRow W.heap.size 9 1 (.slice A n c) n (r.2.2.map sv) ∧ (r.1 = 0 → m' = r.2.1)
def IncDoes (t : List TxtT) (At : Option Addr) (nt ct M d : Nat) : Prop :=
  ∀ (op : List (List UInt8)) (s : List UInt8) (m : Nat) (Ao : Option Addr) (no co : Nat) (W : World), RIn W.heap.size M At (macV t) W → RIn W.heap.size M Ao (op.map sv) W → op.length = no → Blk W M 3 [.int .i64 (m : Int)] → OpOk t op d → s.length ≤ 1000000 → m ≤ 200 →
    Calls Tryz.prog 67 #[sv s, .slice At nt ct, .slice Ao no co, .pointer (some ⟨M, 0, none⟩)] W (IncPost M (readA t d op s m []) W)
theorem incPost_no {M : Nat} {r : ResT} {k m : Nat} {W W' : World} (hk : Blk W' M 3 [.int .i64 (m : Int)]) (hb : ButLo W.heap.size M W W') (hr : r = (k, 0, [])) (h0 : k ≠ 0) : IncPost M r W (.returned (.tuple #[.slice none 0 0, .int .i64 (k : Int)])) W' :=
  ⟨m, none, 0, 0, by rw [hr], hk, hb, by rw [hr]; rfl, by rw [hr]; exact World.ownsRow_nil _ _ _ _, fun h => by rw [hr] at h; exact absurd h h0⟩
/-- A line that includes, as the reference gathers it. -/
theorem stepsA_sub {t : List TxtT} {d : Nat} {op ls O : List (List UInt8)} {m : Nat} {x s : List UInt8} (h : ¬ 200 < m + 1) (h2 : (wordsL x).headD [] = inclW) (h3 : (wordsL x).length = 2) (h4 : txtAt t (w1L x) = some s) (h5 : w1L x ∉ op) :
    stepsA t (readA t d) op (x :: ls) m O = if (readA t d (op ++ [w1L x]) s (m + 1) []).1 ≠ 0 then ((readA t d (op ++ [w1L x]) s (m + 1) []).1, 0, []) else stepsA t (readA t d) op ls (readA t d (op ++ [w1L x]) s (m + 1) []).2.1 (O ++ (readA t d (op ++ [w1L x]) s (m + 1) []).2.2) := by
  rw [stepsA, if_neg h, if_neg (fun e => e h2), if_neg (fun e => e h3), if_neg (by rw [h4]; simp), if_neg h5, h4]
  simp only [Option.getD_some]
  rw [readA_app t d (op ++ [w1L x]) s (m + 1) O, behind_err]
  by_cases hz : (readA t d (op ++ [w1L x]) s (m + 1) []).1 = 0
  · rw [if_neg (fun e => e hz), if_neg (fun e => e hz)]
    unfold behind
    rw [if_pos hz]
  · rw [if_pos hz, if_pos hz]
/-! ### Steps of a drawn region -/
section
variable {P : Program} {ops : Array Oper} {Q : Exit → Act → World → Prop} {S : World → Prop} {md : Region.Mode} {z : Nat}
theorem wpAnyX_two {i j : Nat} {oi oj : Oper} {fuel : Nat} {listed : Array Bool} {a : Act} {w : World} (hr : Region.ready md ops listed = [i, j]) (hoi : ops[i]? = some oi) (hoj : ops[j]? = some oj)
    (h : ∀ K : Act → World → Prop, (∀ a w, (i ≠ z → S w) → wpAnyX P md ops Q S z fuel (listed.setIfInBounds i true) a w → K a w) →
      if Region.wanted oi (yielded ops a.tmps) = true then Oper.wp P oi a w K Q else K (a.put oi.dst undef) w)
    (h' : ∀ K : Act → World → Prop, (∀ a w, (j ≠ z → S w) → wpAnyX P md ops Q S z fuel (listed.setIfInBounds j true) a w → K a w) →
      if Region.wanted oj (yielded ops a.tmps) = true then Oper.wp P oj a w K Q else K (a.put oj.dst undef) w) : wpAnyX P md ops Q S z (fuel + 1) listed a w := by
  refine ⟨fun h0 => (by rw [hr] at h0; cases h0), fun q hq => ?_⟩
  rw [hr, List.mem_cons, List.mem_singleton] at hq
  rcases hq with rfl | rfl
  · have hh := h (fun a' w' => (q ≠ z → S w') ∧ wpAnyX P md ops Q S z fuel (listed.setIfInBounds q true) a' w') (fun a w h1 h2 => ⟨h1, h2⟩)
    unfold wpOp
    simp only [hoi]
    split
    · rename_i hw
      rw [if_pos hw] at hh
      exact .inl hh
    · rename_i hw
      rw [if_neg hw] at hh
      exact hh
  · have hh := h' (fun a' w' => (q ≠ z → S w') ∧ wpAnyX P md ops Q S z fuel (listed.setIfInBounds q true) a' w') (fun a w h1 h2 => ⟨h1, h2⟩)
    unfold wpOp
    simp only [hoj]
    split
    · rename_i hw
      rw [if_pos hw] at hh
      exact .inl hh
    · rename_i hw
      rw [if_neg hw] at hh
      exact hh
theorem below_gr {B : Nat} {w w' : World} {r : Option Nat} (hg : w.grownBy w' r) (hr : ∀ g, r = some g → B ≤ g) (hB : B ≤ w.heap.size) : Below B w w' :=
  ⟨hg.os, hg.tape, hg.output, hg.size, fun k hk => hg.block k (by omega) (fun e => by have := hr k e.symm; omega)⟩
set_option maxRecDepth 10000 in
/-- 'append(out, x...)' as a step, x a list of texts that lies anywhere. -/
theorem step_cat {o : Oper} {a : Act} {K : Act → World → Prop} {F : Prop} (wr : World) (s x : Operand) (B : Nat) (A : Option Addr) (n c : Nat) (xs : List Value) (A2 : Option Addr) (m c2 : Nat) (news : List Value)
    (hown : wr.ownsRow B 9 1 (.slice A n c) n xs) (hr : Rd wr A2 news) (hm : news.length = m) (h1 : ∀ u ∈ news, u.oneCell' = true) (hB : B ≤ wr.heap.size) (hn : n + m ≤ 10000)
    (hgd : o.guard = none) (ho : o.op = .call { callee := .builtin .append, args := #[s, x], argTypes := #[22, 22] })
    (hs : a.eval s = .slice A n c) (hx : a.eval x = .slice A2 m c2)
    (h : ∀ A' c' w', w'.ownsRow B 9 1 (.slice A' (n + m) c') (n + m) (xs ++ news) → Below B wr w' → K (a.put o.dst (.slice A' (n + m) c')) w') :
    if Region.wanted o (yielded ops a.tmps) = true then Oper.wp Tryz.prog o a wr K Q else F := by
  obtain ⟨ht, ⟨i, v, hi, hz, hsz, hb, hzs⟩, hp⟩ := elStrF
  rcases Nat.eq_zero_or_pos m with hm0 | hm0
  · subst hm0
    obtain rfl : news = [] := List.length_eq_zero_iff.1 hm
    have hw : Region.wanted o (yielded ops a.tmps) = true := by simp [Region.wanted, hgd]
    rw [if_pos hw]
    have hrun : (Builtin.append_ #[22, 22] o.type #[.slice A n c, .slice A2 0 c2]).run Tryz.prog wr = .ok (.slice A n c) wr := by
      rcases hown.2 with ⟨hv, rfl⟩ | ⟨g, cap, cur, hv, _, _, hnc, _⟩
      · injection hv with h1 h2 h3
        subst h1 h3
        cases A2 with
        | none => simp [Builtin.append_, run_underlying ht, sizeOf, typeInfo, hi, Builtin.lenOf, Builtin.firstCells]
        | some b => simp [Builtin.append_, run_underlying ht, sizeOf, typeInfo, hi, Builtin.lenOf, Builtin.firstCells, loadCells, loadCellsFrom]
      · injection hv with h1 h2 h3
        subst h1 h3
        exact run_append_zero' wr 22 o.type 9 i ht hi _ n _ A2 c2 hnc
    unfold Oper.wp
    simp [execOp, ho, resolve, invoke, builtin, hs, hx, hrun, Result.andThen]
    exact h A c wr (by simpa using hown) (Below.refl _ _)
  · obtain ⟨b, off, hA, _, hc⟩ := hr (by omega)
    subst hA
    refine step_append_lies (w := wr) hgd s x 22 ho B 9 i v 1 16 ht hi hz hsz hb hzs hp (.slice A n c) n xs hs hown ⟨b, off, none⟩ m c2 news hx (by omega) (fun j u hu => by rw [addr_plus]; exact hc j u hu) h1 hm0 (by unfold maxLen; omega) (by omega) hB _ rfl ?_
    intro g cap w' hown' hg hor _
    exact h _ cap w' hown' (below_gr hg (fun k hk => (hown.lt k hk).1) hB)
end
end Go.Proofs.YtoandhhkmkgmaaaGreatDoor
/- The reference's including: the walk, by how deep texts are in one another. -/
namespace Go.Proofs.YtoandhhkmkgmaaaGreatDoor
open Go.RowKit

theorem macV_len : ∀ t : List TxtT, (macV t).length = 2 * t.length
  | [] => rfl
  | x :: t => by
    have := macV_len t
    unfold macV at this ⊢
    simp only [List.flatMap_cons, List.length_append, List.length_cons, List.length_nil] at this ⊢
    omega
theorem sub_many {t : List TxtT} {d : Nat} {op : List (List UInt8)} {s : List UInt8} {m : Nat} {O : List (List UInt8)} (hm : m ≤ 200) (hO : O.length ≤ m) (h : (readA t d op s m []).1 = 0) : (readA t d op s m []).2.1 ≤ 200 ∧ O.length + (readA t d op s m []).2.2.length ≤ (readA t d op s m []).2.1 := by
  have e := readA_app t d op s m O
  have hb : behind O (readA t d op s m []) = (0, (readA t d op s m []).2.1, O ++ (readA t d op s m []).2.2) := by unfold behind; rw [if_pos h]
  have := readA_many t d op s m O hm hO (by rw [e, hb])
  rw [e, hb] at this
  simpa using this
theorem rd_oneS {w : World} {q : Nat} {v : Value} (h : w.cell? ⟨q, 0, none⟩ = some v) : Rd w (some ⟨q, 0, none⟩) [v] := fun _ =>
  ⟨q, 0, rfl, lt_of_cell' h, fun j u hu => by
    match j, hu with
    | 0, hu => simp at hu; subst hu; exact h⟩
theorem step_clone {ops : Array Oper} {Q : Exit → Act → World → Prop} {o : Oper} {a : Act} {K : Act → World → Prop} {F : Prop} (wr : World) (x : Operand) (B : Nat) (A2 : Option Addr) (m c2 : Nat) (l : List (List UInt8))
    (hr : Rd wr A2 (l.map sv)) (hm : l.length = m) (hB : B ≤ wr.heap.size) (hn : m ≤ 10000)
    (hgd : o.guard = none) (ho : o.op = .call { callee := .builtin .append, args := #[.const (.slice none 0 0), x], argTypes := #[22, 22] })
    (hx : a.eval x = .slice A2 m c2)
    (h : ∀ A' c' w', w'.ownsRow B 9 1 (.slice A' m c') m (l.map sv) → Below B wr w' → K (a.put o.dst (.slice A' m c')) w') :
    if Region.wanted o (yielded ops a.tmps) = true then Oper.wp Tryz.prog o a wr K Q else F := by
  refine step_cat wr (.const (.slice none 0 0)) x B none 0 0 [] A2 m c2 (l.map sv) (World.ownsRow_nil _ _ _ _) hr (by rw [List.length_map]; exact hm) (by intro u hu; obtain ⟨z, _, rfl⟩ := List.mem_map.1 hu; rfl) hB (by omega) hgd ho rfl hx ?_
  intro A' c' w' h1 h2
  rw [Nat.zero_add] at h1 ⊢
  exact h A' c' w' h1 h2
set_option maxRecDepth 100000 in
set_option maxHeartbeats 8000000 in
theorem rInc_step {t : List TxtT} {At : Option Addr} {nt ct M d : Nat} (HT : TxtOk t) (hrec : IncDoes t At nt ct M d) (hnt : t.length = nt) (htl : ∀ x ∈ t, x.2.length ≤ 1000000) : IncDoes t At nt ct M (d + 1) := by
  intro op s m Ao no co W ht ho hno hm hop hsl hm2
  have HREC := Lib.hid hrec
  have HTT := Lib.hid HT
  have HNT := Lib.hid hnt
  have HTL := Lib.hid htl
  have HNO := Lib.hid hno
  have HOP := Lib.hid hop
  have HSL := Lib.hid hsl
  have HJ := Lib.hid (show Calls Tryz.prog 118 #[.string ⟨s.toArray⟩] W (JoPost s W) from rLinesOf_any s W (by omega))
  have HIT := Lib.hid ht
  have HIO := Lib.hid ho
  have HKM := Lib.hid hm
  have HRA : Hid (readA t (d + 1) op s m [] = if lnE s ≠ 0 then (lnE s, 0, []) else stepsA t (readA t d) op (linesT s) m []) := Lib.hid rfl
  have hn20 : nt ≤ 20 := by rw [← hnt]; exact HT.len
  have ho20 : no ≤ 20 := by have := hop.pos.2; omega
  show Calls _ _ #[.string ⟨s.toArray⟩, _, _, _] _ _
  generalize (⟨s.toArray⟩ : ByteArray) = bs at *
  clear ht ho hno hm hop hsl hrec HT hnt htl
  go_enter Tryz.func67, Tryz.ntmps67
  go_wp2_with fail
  refine HJ.out.mono ?_
  rintro e w1 ⟨hb1, ⟨hne, rfl⟩ | ⟨A, n, c, he0, hn, hown, rfl⟩⟩
  · have HE : Hid (readA t (d + 1) op s m [] = (lnE s, 0, [])) := Lib.hid (by rw [HRA.out, if_pos hne])
    have HNE := Lib.hid hne
    have p1 : (((lnE s : Nat) : Int) != 0) = true := by simp; omega
    have HK1 := Lib.hid (HKM.out.below hb1 HKM.out.lt)
    have HB1 := Lib.hid (ButLo.of_below (M := M) hb1 (Nat.le_refl _))
    generalize lnE s = V at *
    clear hne hb1
    go_wp2_with fail
    go_ret2
    exact incPost_no HK1.out HB1.out HE.out HNE.out
  · have HRS : Hid (readA t (d + 1) op s m [] = stepsA t (readA t d) op (linesT s) m []) := Lib.hid (by rw [HRA.out, if_neg (fun e => e he0)])
    have HLN : Hid ((linesT s).length = n) := Lib.hid (by unfold linesT; rw [List.length_map, hn])
    have HRD := Lib.hid (Rd.own2 hown)
    have HSF : Hid (∀ g off, A = some ⟨g, off, none⟩ → g < w1.heap.size ∧ g ≠ M) := Lib.hid (fun g off hA => by
      subst hA
      have := hown.lt g rfl
      have := HKM.out.lt
      omega)
    have HEV := Lib.hid (linesT_each s)
    have hnb : n ≤ 1000001 := by have h1 := joinL_count s; have h2 := HSL.out; rw [← hn]; omega
    have HK1 := Lib.hid (HKM.out.below hb1 HKM.out.lt)
    have HM1 := Lib.hid (Nat.lt_of_lt_of_le HKM.out.lt hb1.size)
    have HB1 := Lib.hid (ButLo.of_below (M := M) hb1 (Nat.le_refl _))
    have HSZ1 := Lib.hid hb1.size
    have HIT1 := Lib.hid ((HIT.out.but HB1.out).up hb1.size)
    have HIO1 := Lib.hid ((HIO.out.but HB1.out).up hb1.size)
    clear hb1 hown he0 hn HRA HJ
    go_wp2_with fail
    go_loopw [12, 31] (fun x i wr => ∃ (j m' : Nat) (O' : List (List UInt8)) (A0 : Option Addr) (n0 c0 : Nat), j ≤ n ∧ i = .int .i64 (j : Int) ∧ x = .slice A0 n0 c0 ∧ O'.length = n0 ∧ m' ≤ 200 ∧ n0 ≤ m' ∧ Hid (wr.ownsRow w1.heap.size 9 1 (.slice A0 n0 c0) n0 (O'.map sv)) ∧ Hid (Blk wr M 3 [.int .i64 (m' : Int)]) ∧ Hid (ButLo w1.heap.size M w1 wr) ∧ Hid (readA t (d + 1) op s m [] = stepsA t (readA t d) op ((linesT s).drop j) m' O')) (fun _ i _ => n - (intOf i).toNat)
    case atStart => exact ⟨0, m, [], none, 0, 0, by omega, rfl, rfl, rfl, hm2, by omega, Lib.hid (World.ownsRow_nil _ _ _ _), HK1, Lib.hid (ButLo.refl _ _ _), HRS⟩
    case round =>
      obtain ⟨j, m', O', A0, n0, c0, hj, rfl, rfl, hO', hm', hnm, HOj, HKj, HBj, HSj⟩ := hrel
      by_cases hlt : j < n
      · obtain ⟨p, hp⟩ : ∃ p, (joinL 0 (linesN s))[j]? = some p := ⟨_, List.getElem?_eq_getElem (by have := HLN.out; unfold linesT at this; rw [List.length_map] at this; omega)⟩
        have hx : (linesT s)[j]? = some p.2 := by unfold linesT; rw [List.getElem?_map, hp]; rfl
        have hdr : (linesT s).drop j = p.2 :: (linesT s).drop (j + 1) := by
          obtain ⟨h1, h2⟩ := List.getElem?_eq_some_iff.1 hx
          rw [List.drop_eq_getElem_cons h1, h2]
        have HST := Lib.hid (HSj.out.trans (congrArg (fun q => stepsA t (readA t d) op q m' O') hdr))
        obtain ⟨hw0, hxl⟩ := HEV.out p.2 (List.mem_of_getElem? hx)
        have HXL : Hid (p.2.length ≤ 1000001) := Lib.hid (by have := HSL.out; omega)
        obtain ⟨bl, off, rfl, l0, l1⟩ := (show Rd wr A (lnV (joinL 0 (linesN s))) from (RIn.but (lo := w1.heap.size) (M := M) ⟨HRD.out, fun _ g off hA => HSF.out g off hA⟩ HBj.out).rd).lines hp
        have HWD := Lib.hid (fun V => show Calls Tryz.prog 93 #[.string ⟨p.2.toArray⟩] V _ from rWordsOf_any p.2 (by have := HXL.out; omega) V)
        have hwl := words_len p.2
        obtain ⟨at_, x⟩ := p
        dsimp only at *
        obtain ⟨bx, hbx⟩ : ∃ bx, (⟨x.toArray⟩ : ByteArray) = bx := ⟨_, rfl⟩
        have HBX := Lib.hid hbx
        rw [hbx] at l1 HWD
        obtain ⟨y0, ys, hws⟩ : ∃ y0 ys, wordsL x = y0 :: ys := by
          cases h : wordsL x with
          | nil => exact absurd h hw0
          | cons a b => exact ⟨a, b, rfl⟩
        have HWS := Lib.hid hws
        have HHD : Hid ((wordsL x).headD [] = y0) := Lib.hid (by rw [hws]; rfl)
        have HWE := Lib.hid (fun y (hy : y ∈ wordsL x) => words_each x y hy)
        obtain ⟨nw, hnw⟩ : ∃ nw, (wordsL x).length = nw := ⟨_, rfl⟩
        have HNW := Lib.hid hnw
        have hnw0 : 0 < nw := by rw [← hnw, hws]; simp
        have hnwb : nw ≤ 4294967297 := by rw [← hnw]; have := HXL.out; omega
        unfold WordsPost at HWD
        rw [hnw] at HWD
        have j0 : (0 : Int) ≤ (j : Int) := by omega
        have j1 : (j : Int) < (n : Int) := by omega
        have hb5 := below_new (Below.refl wr.heap.size wr) (.cells #[.int .i64 (at_ : Int), .string bx] 175)
        have HO5 := Lib.hid (own_belowK HOj.out hb5)
        have HB5 := Lib.hid (HBj.out.below hb5 HBj.out.size)
        have HKM5 := Lib.hid (HKj.out.below hb5 HKj.out.lt)
        have HK5 := Lib.hid (Blk.new wr #[.int .i64 (at_ : Int), .string bx] 175)
        have HN5 := Lib.hid (And.intro (Nat.lt_of_lt_of_le HM1.out HBj.out.size) (And.intro HBj.out.size HK5.out.lt))
        clear hx hp hdr hw0 hxl hwl hbx hws hnw hb5
        go_upto_region 8 with fail
        generalize wr.alloc (.cells #[.int .i64 (at_ : Int), .string bx] 175) = w5 at *
        generalize wr.heap.size = k5 at *
        have m2 : w5.cell? ⟨M, 0, none⟩ = some (.int .i64 (m' : Int)) := HKM5.out.cell (j := 0) rfl
        have mf := HKM5.out.free 0
        have HKM6 := Lib.hid (HKM5.out.same 0 (.int .i64 ((m' + 1 : Nat) : Int)))
        have HB6 := Lib.hid (HB5.out.set (j := 0) (.int .i64 ((m' + 1 : Nat) : Int)))
        have HO6 := Lib.hid (own_setB (j := 0) HO5.out HM1.out (.int .i64 ((m' + 1 : Nat) : Int)))
        have HK6 := Lib.hid (HK5.out.other (a := ⟨M, 0, none⟩) (by show k5 ≠ M; have := HN5.out; omega) (.int .i64 ((m' + 1 : Nat) : Int)))
        have HSZ6 : Hid ((w5.setCell ⟨M, 0, none⟩ (.int .i64 ((m' + 1 : Nat) : Int))).heap.size = w5.heap.size) := Lib.hid (by simp)
        rw [show ((m' + 1 : Nat) : Int) = (m' : Int) + 1 by omega] at HKM6 HB6 HO6 HK6 HSZ6
        clear l0 l1
        go_upto_region 9 with fail
        clear m2 mf HKM5 HB5 HO5 HK5
        generalize w5.setCell ⟨M, 0, none⟩ (.int .i64 ((m' : Int) + 1)) = w6 at *
        rw [← HSZ6.out] at HN5
        clear HSZ6
        have m2 : w6.cell? ⟨M, 0, none⟩ = some (.int .i64 ((m' : Int) + 1)) := HKM6.out.cell (j := 0) rfl
        by_cases h200 : 200 < m' + 1
        · have q1 : decide ((200 : Int) < (m' : Int) + 1) = true := by simp; omega
          have HE : Hid (readA t (d + 1) op s m [] = (2, 0, [])) := Lib.hid (by rw [HST.out]; exact stepsA_big h200)
          clear h200
          go_wp2_with fail
          go_ret2
          exact incPost_no HKM6.out (HB1.out.trans (HB6.out.down HSZ1.out)) HE.out (by decide)
        · have q1 : decide ((200 : Int) < (m' : Int) + 1) = false := by simp; omega
          have H200 := Lib.hid h200
          have l1 := HK6.out.cell (j := 1) rfl
          clear h200
          go_wp2_with fail
          refine (HWD.out _).mono ?_
          rintro e w7 ⟨Aw, cw, rfl, hown7, hb7⟩
          have HO7 := Lib.hid (own_belowK HO6.out hb7)
          have HB7 := Lib.hid (HB6.out.below hb7 (by have := HN5.out; omega))
          have HKM7 := Lib.hid (HKM6.out.below hb7 HKM6.out.lt)
          have HK7 := Lib.hid (HK6.out.below hb7 HK6.out.lt)
          have HN7 := Lib.hid (show M < w6.heap.size ∧ w1.heap.size ≤ w6.heap.size ∧ w6.heap.size ≤ w7.heap.size from ⟨by have := HN5.out; omega, by have := HN5.out; omega, hb7.size⟩)
          have HRW := Lib.hid hown7
          clear hb7 m2 l1
          obtain ⟨bw, offw, he2, w0c⟩ := (show Rd w7 Aw ((wordsL x).map sv) from Rd.own2 hown7).scell (k := 0) (x := y0) (by rw [HWS.out]; rfl)
          subst he2
          rw [Nat.add_zero] at w0c
          clear hown7
          have heq := eq_sv y0 inclW
          have heq2 : (⟨inclW.toArray⟩ : ByteArray).toList = [105, 110, 99, 108, 117, 100, 101] := by rw [Lib.toList_data]; rfl
          generalize (⟨y0.toArray⟩ : ByteArray) = by0 at *
          have l1 := HK7.out.cell (j := 1) rfl
          by_cases hinc : y0 = inclW
          case neg =>
            have g1 : (by0.toList == (⟨#[105, 110, 99, 108, 117, 100, 101]⟩ : ByteArray).toList) = false := by rw [show (⟨#[105, 110, 99, 108, 117, 100, 101]⟩ : ByteArray) = ⟨inclW.toArray⟩ from rfl, heq]; exact decide_eq_false hinc
            have g2 : (by0.toList == [105, 110, 99, 108, 117, 100, 101]) = false := by rw [← heq2, heq]; exact decide_eq_false hinc
            have HNX : Hid (readA t (d + 1) op s m [] = stepsA t (readA t d) op ((linesT s).drop (j + 1)) (m' + 1) (O' ++ [x])) := Lib.hid (by rw [HST.out]; exact stepsA_line H200.out (by rw [HHD.out]; exact hinc))
            have HBXS : Hid (sv x = .string bx) := Lib.hid (by rw [← HBX.out]; rfl)
            clear heq heq2 hinc
            go_wp2_with (at_builtin; refine wpList_push elStr w7 _ _ w1.heap.size A0 n0 c0 (O'.map sv) (.string bx) HO7.out rfl (by have := HN7.out; omega) (by omega) (by omega) rfl rfl rfl rfl ?_; intro A' c' w8 hown8 hb8)
            have HB8 := Lib.hid (HB7.out.below hb8 (Nat.le_refl _))
            have HKM8 := Lib.hid (HKM7.out.below hb8 HM1.out)
            have HO8 : Hid (w8.ownsRow w1.heap.size 9 1 (.slice A' (n0 + 1) c') (n0 + 1) ((O' ++ [x]).map sv)) := Lib.hid (by rw [List.map_append]; show w8.ownsRow _ _ _ _ _ (O'.map sv ++ [sv x]); rw [HBXS.out]; exact hown8)
            clear hown8 hb8
            rw [show ((m' : Int) + 1) = ((m' + 1 : Nat) : Int) by omega] at HKM8
            go_roundw
            case rel => exact ⟨j + 1, m' + 1, O' ++ [x], A', n0 + 1, c', by omega, by go_num, rfl, by simp; omega, by have := H200.out; omega, by omega, HO8, HKM8, HB8, HNX⟩
            case measure => simp [intOf]; omega
          case pos =>
            have g1 : (by0.toList == (⟨#[105, 110, 99, 108, 117, 100, 101]⟩ : ByteArray).toList) = true := by rw [show (⟨#[105, 110, 99, 108, 117, 100, 101]⟩ : ByteArray) = ⟨inclW.toArray⟩ from rfl, heq]; exact decide_eq_true hinc
            have g2 : (by0.toList == [105, 110, 99, 108, 117, 100, 101]) = true := by rw [← heq2, heq]; exact decide_eq_true hinc
            have HIN : Hid ((wordsL x).headD [] = inclW) := Lib.hid (by rw [HHD.out]; exact hinc)
            have HBE := Lib.hid (HB1.out.trans (HB7.out.down HSZ1.out))
            clear heq heq2 hinc
            by_cases hn2 : nw = 2
            case neg =>
              have HE : Hid (readA t (d + 1) op s m [] = (3, 0, [])) := Lib.hid (by rw [HST.out, stepsA_incl H200.out HIN.out, inclA_3 (by rw [HNW.out]; exact hn2)]; rfl)
              have p2 : ((nw : Int) != 2) = true := by simp; omega
              clear hn2
              go_wp2_with fail
              go_ret2
              exact incPost_no HKM7.out HBE.out HE.out (by decide)
            case pos =>
              subst hn2
              obtain ⟨y, hy⟩ : ∃ y, (wordsL x)[1]? = some y := ⟨_, List.getElem?_eq_getElem (by rw [HNW.out]; omega)⟩
              have HY : Hid (w1L x = y) := Lib.hid (by unfold w1L; rw [List.getD_eq_getElem?_getD, hy]; rfl)
              have HYL : Hid (y.length ≤ 1000001) := Lib.hid (by have := HWE.out y (List.mem_of_getElem? hy); have := HXL.out; omega)
              obtain ⟨bw', offw', he3, w1c⟩ := (show Rd w7 (some ⟨bw, offw, none⟩) ((wordsL x).map sv) from Rd.own2 HRW.out).scell (k := 1) (x := y) hy
              injection he3 with he3
              injection he3 with he3 he4 _
              subst he3 he4
              have HBW : Hid (bw ≠ M ∧ bw < w7.heap.size) := Lib.hid (by have := HRW.out.lt bw rfl; have := HN7.out; omega)
              have HIT7 := Lib.hid ((HIT1.out.but HB7.out).rd)
              have HIO7 := Lib.hid ((HIO1.out.but HB7.out).rd)
              have HSI := Lib.hid (fun W' (hr : Rd W' Ao (op.map sv)) => show Calls Tryz.prog 43 #[.slice Ao no co, .string ⟨y.toArray⟩] W' (PlaceIs op y W') from place_any op y W' hr HNO.out (by omega))
              have HEQ := Lib.hid (fun z => eq_sv z y)
              obtain ⟨by1, hby1⟩ : ∃ b1, (⟨y.toArray⟩ : ByteArray) = b1 := ⟨_, rfl⟩
              have HBY := Lib.hid hby1
              rw [hby1] at w1c HEQ HSI
              clear hy hby1 HWD
              have HW1 := Lib.hid w1c
              have p2 : ((2 : Int) != 2) = false := by decide
              go_wp2_with fail
              clear w1c w0c g1 g2 l1
              go_loopw [16, 61] (fun k i wq => ∃ (q : Nat) (kv : Int), q ≤ nt ∧ i = .int .i64 (q : Int) ∧ k = .int .i64 kv ∧ Hid (KAt t y q kv) ∧ Hid (Below w7.heap.size w7 wq)) (fun _ i _ => nt - (intOf i).toNat)
              case atStart => exact ⟨0, -1, by omega, rfl, rfl, Lib.hid (KAt.zero _ _), Lib.hid (Below.refl _ _)⟩
              case round =>
                obtain ⟨q, kv, hq, rfl, rfl, HKq, HBq⟩ := hrel
                by_cases hlq : q < nt
                · obtain ⟨z, hz⟩ : ∃ z, t[q]? = some z := ⟨_, List.getElem?_eq_getElem (by rw [HNT.out]; exact hlq)⟩
                  obtain ⟨bA, offA, rfl, c0, c1⟩ := (HIT7.out.below HBq.out).macs hz
                  obtain ⟨zn, zv⟩ := z
                  dsimp only at c0 c1
                  have HZ := Lib.hid hz
                  have hee := HEQ.out zn
                  unfold sv at c0 c1
                  generalize (⟨zn.toArray⟩ : ByteArray) = bn at *
                  generalize (⟨zv.toArray⟩ : ByteArray) = bv at *
                  have hb9 := below_new (Below.refl wr.heap.size wr) (.cells #[.string bn, .string bv] 61)
                  have HB9 := Lib.hid (below_then HBq.out hb9)
                  have HK9 := Lib.hid (Blk.new wr #[.string bn, .string bv] 61)
                  have k1 : (q : Int) < (nt : Int) := by omega
                  clear hz hb9
                  go_upto_region 20 with fail
                  generalize wr.alloc (.cells #[.string bn, .string bv] 61) = w9 at *
                  generalize wr.heap.size = k9 at *
                  have y0' := HK9.out.cell (j := 0) rfl
                  have w1d : w9.cell? ⟨bw, offw + 1, none⟩ = some (.string by1) := (World.cell?_of_block (HB9.out.block bw HBW.out.2)).trans HW1.out
                  clear c0 c1
                  by_cases hzy : zn = y
                  · have hee2 : (bn.toList == by1.toList) = true := by rw [hee]; exact decide_eq_true hzy
                    have HKn : Hid (KAt t y (q + 1) (q : Int)) := Lib.hid (KAt.hit HZ.out hzy)
                    clear hee hzy
                    go_quiet (fail)
                    have HB10 := Lib.hid (below_then HB9.out (below_of_drewN w9 nq))
                    clear y0' w1d HB9 HK9 hee2
                    generalize w9.drewN nq = w10 at *
                    go_wp2_with fail
                    go_roundw
                    case rel => exact ⟨q + 1, (q : Int), by omega, by go_num, rfl, HKn, HB10⟩
                    case measure => simp [intOf]; omega
                  · have hee2 : (bn.toList == by1.toList) = false := by rw [hee]; exact decide_eq_false hzy
                    have HKn : Hid (KAt t y (q + 1) kv) := Lib.hid (HKq.out.miss HZ.out hzy)
                    clear hee hzy
                    go_quiet (fail)
                    have HB10 := Lib.hid (below_then HB9.out (below_of_drewN w9 nq))
                    clear y0' w1d HB9 HK9 hee2
                    generalize w9.drewN nq = w10 at *
                    go_wp2_with fail
                    go_roundw
                    case rel => exact ⟨q + 1, kv, by omega, by go_num, rfl, HKn, HB10⟩
                    case measure => simp [intOf]; omega
                · obtain rfl : q = nt := by omega
                  have HKE : Hid (KAt t y t.length kv) := Lib.hid (by rw [HNT.out]; exact HKq.out)
                  have HBEq := Lib.hid (HBE.out.below HBq.out (by have := HN7.out; have := HSZ1.out; omega))
                  have HKMq := Lib.hid (HKM7.out.below HBq.out HKM7.out.lt)
                  cases hl : txtAt t y with
                  | none =>
                    obtain rfl := HKE.out.none hl
                    have HE : Hid (readA t (d + 1) op s m [] = (5, 0, [])) := Lib.hid (by rw [HST.out, stepsA_incl H200.out HIN.out, inclA_5 (by rw [HNW.out]; decide) (by show txtAt t (w1L x) = none; rw [HY.out]; exact hl)]; rfl)
                    clear hl
                    go_wp2_with fail
                    go_ret2
                    exact incPost_no HKMq.out HBEq.out HE.out (by decide)
                  | some s' =>
                    obtain ⟨i, rfl, hi⟩ := HKE.out.some HTT.out.once hl
                    obtain ⟨bA, offA, rfl, c0, c1⟩ := (HIT7.out.below HBq.out).macs hi
                    dsimp only at c0 c1
                    have HAT := Lib.hid hl
                    have HSL' : Hid (s'.length ≤ 1000000) := Lib.hid (HTL.out _ (List.mem_of_getElem? hi))
                    have hiq : i < q := by rw [← HNT.out]; exact (List.getElem?_eq_some_iff.1 hi).1
                    have HBA : Hid (bA < w1.heap.size ∧ bA ≠ M) := Lib.hid (HIT1.out.far (by have := macV_len t; have := HNT.out; omega) bA offA rfl)
                    have w1d : wr.cell? ⟨bw, offw + 1, none⟩ = some (.string by1) := (World.cell?_of_block (HBq.out.block bw HBW.out.2)).trans HW1.out
                    have q1 : decide ((i : Int) < 0) = false := by simp
                    have HSIq := Lib.hid (HSI.out wr (HIO7.out.below HBq.out))
                    clear hl hi
                    go_wp2_with fail
                    refine HSIq.out.mono ?_
                    rintro e wq2 ⟨ii, rfl, rfl, hii⟩
                    rcases hii with ⟨rfl, hno⟩ | ⟨k, rfl, hk⟩
                    case inr =>
                      have HE : Hid (readA t (d + 1) op s m [] = (8, 0, [])) := Lib.hid (by rw [HST.out, stepsA_incl H200.out HIN.out, inclA_8 (by rw [HNW.out]; decide) (by show ¬ txtAt t (w1L x) = none; rw [HY.out, HAT.out]; simp) (by show w1L x ∈ op; rw [HY.out]; exact List.mem_of_getElem? hk)]; rfl)
                      have q2 : decide ((0 : Int) ≤ (k : Int)) = true := by simp
                      clear hk
                      go_wp2_with fail
                      go_ret2
                      exact incPost_no HKMq.out HBEq.out HE.out (by decide)
                    case inl =>
                      have HNX := Lib.hid (HST.out.trans (stepsA_sub H200.out HIN.out HNW.out (by rw [HY.out]; exact HAT.out) (by rw [HY.out]; exact hno)))
                      rw [HY.out] at HNX
                      have HOP2 := Lib.hid (HOP.out.push hno HAT.out)
                      clear hno
                      go_upto_region 27 with fail
                      obtain ⟨bv', hbv'⟩ : ∃ b, sv s' = .string b := ⟨_, rfl⟩
                      have HBV := Lib.hid hbv'
                      rw [hbv'] at c1
                      have hd3 : Below wr.heap.size wr wr.drew := Below.drew (Below.refl _ _)
                      have HSS : Hid (wr.drew.cell? ⟨bA, offA + i * 2 + 1, none⟩ = some (.string bv') ∧ wr.drew.cell? ⟨bw, offw + 1, none⟩ = some (.string by1)) := Lib.hid ⟨c1, w1d⟩
                      have HW73 := Lib.hid (below_then HBq.out hd3)
                      have HIO3 := Lib.hid (HIO7.out.below HW73.out)
                      have HO3 := Lib.hid (own_belowK HO7.out HW73.out)
                      have HKM3 := Lib.hid (HKM7.out.below HW73.out HKM7.out.lt)
                      have HB3 := Lib.hid (HB7.out.below HW73.out (by have := HN7.out; omega))
                      have HSZ3 := Lib.hid HW73.out.size
                      have HRM := Lib.hid (fun h => sub_many (t := t) (d := d) (op := op ++ [y]) (s := s') (m := m' + 1) (O := O') (by have := H200.out; omega) (by omega) h)
                      have i1 : (i : Int) < (q : Int) := by omega
                      have i0 : (0 : Int) ≤ (i : Int) := by omega
                      clear c0 c1 w1d hbv' hd3
                      refine wp_region_x (fun V => V.cell? ⟨bA, offA + i * 2 + 1, none⟩ = some (.string bv') ∧ V.cell? ⟨bw, offw + 1, none⟩ = some (.string by1)) 19 (by kernel_rfl) ?_
                      generalize wr.drew = w3 at *
                      have HLT := Lib.hid (show bA < w3.heap.size ∧ bw < w3.heap.size ∧ M < w3.heap.size ∧ w1.heap.size ≤ w3.heap.size from ⟨by have := HBA.out; have := HN7.out; have := HSZ3.out; omega, by have := HBW.out; have := HSZ3.out; omega, by have := HM1.out; have := HN7.out; have := HSZ3.out; omega, by have := HN7.out; have := HSZ3.out; omega⟩)
                      have HKP := Lib.hid (fun V (hV : Below w3.heap.size w3 V) => (show V.cell? ⟨bA, offA + i * 2 + 1, none⟩ = some (.string bv') ∧ V.cell? ⟨bw, offw + 1, none⟩ = some (.string by1) from ⟨(World.cell?_of_block (hV.block bA HLT.out.1)).trans HSS.out.1, (World.cell?_of_block (hV.block bw HLT.out.2.1)).trans HSS.out.2⟩))
                      refine wpAnyX_take (i := 0) (v := ?v0) rfl (by kernel_rfl) (by kernel_rfl) (by kernel_rfl) (by kernel_rfl) (fun _ _ _ h => h) (Or.inl ⟨by rfl, ?hy0⟩) HSS.out ?rest0
                      case hy0 => (intro V hSw; (try dsimp only at hSw); obtain ⟨hS1, hS2⟩ := hSw; go_simp; try with_reducible rfl)
                      refine wpAnyX_take (i := 1) (v := ?v1) rfl (by kernel_rfl) (by kernel_rfl) (by kernel_rfl) (by kernel_rfl) (fun _ _ _ h => h) (Or.inl ⟨by rfl, ?hy1⟩) HSS.out ?rest1
                      case hy1 => (intro V hSw; (try dsimp only at hSw); obtain ⟨hS1, hS2⟩ := hSw; go_simp; try with_reducible rfl)
                      refine wpAnyX_take (i := 2) (v := ?v2) rfl (by kernel_rfl) (by kernel_rfl) (by kernel_rfl) (by kernel_rfl) (fun _ _ _ h => h) (Or.inl ⟨by rfl, ?hy2⟩) HSS.out ?rest2
                      case hy2 => (intro V hSw; (try dsimp only at hSw); obtain ⟨hS1, hS2⟩ := hSw; go_simp; try with_reducible rfl)
                      refine wpAnyX_take (i := 3) (v := ?v3) rfl (by kernel_rfl) (by kernel_rfl) (by kernel_rfl) (by kernel_rfl) (fun _ _ _ h => h) (Or.inl ⟨by rfl, ?hy3⟩) HSS.out ?rest3
                      case hy3 => (intro V hSw; (try dsimp only at hSw); obtain ⟨hS1, hS2⟩ := hSw; go_simp; try with_reducible rfl)
                      refine wpAnyX_take (i := 4) (v := ?v4) rfl (by kernel_rfl) (by kernel_rfl) (by kernel_rfl) (by kernel_rfl) (fun _ _ _ h => h) (Or.inl ⟨by rfl, ?hy4⟩) HSS.out ?rest4
                      case hy4 => (intro V hSw; (try dsimp only at hSw); obtain ⟨hS1, hS2⟩ := hSw; go_simp; try with_reducible rfl)
                      refine wpAnyX_take (i := 5) (v := ?v5) rfl (by kernel_rfl) (by kernel_rfl) (by kernel_rfl) (by kernel_rfl) (fun _ _ _ h => h) (Or.inl ⟨by rfl, ?hy5⟩) HSS.out ?rest5
                      case hy5 => (intro V hSw; (try dsimp only at hSw); obtain ⟨hS1, hS2⟩ := hSw; go_simp; try with_reducible rfl)
                      refine wpAnyX_take (i := 6) (v := ?v6) rfl (by kernel_rfl) (by kernel_rfl) (by kernel_rfl) (by kernel_rfl) (fun _ _ _ h => h) (Or.inl ⟨by rfl, ?hy6⟩) HSS.out ?rest6
                      case hy6 => (intro V hSw; (try dsimp only at hSw); obtain ⟨hS1, hS2⟩ := hSw; go_simp; try with_reducible rfl)
                      refine wpAnyX_take (i := 8) (v := ?v8) rfl (by kernel_rfl) (by kernel_rfl) (by kernel_rfl) (by kernel_rfl) (fun _ _ _ h => h) (Or.inl ⟨by rfl, ?hy8⟩) HSS.out ?rest8
                      case hy8 => (intro V hSw; (try dsimp only at hSw); obtain ⟨hS1, hS2⟩ := hSw; go_simp; try with_reducible rfl)
                      refine wpAnyX_take (i := 9) (v := ?v9) rfl (by kernel_rfl) (by kernel_rfl) (by kernel_rfl) (by kernel_rfl) (fun _ _ _ h => h) (Or.inl ⟨by rfl, ?hy9⟩) HSS.out ?rest9
                      case hy9 => (intro V hSw; (try dsimp only at hSw); obtain ⟨hS1, hS2⟩ := hSw; go_simp; try with_reducible rfl)
                      refine wpAnyX_take (i := 10) (v := ?v10) rfl (by kernel_rfl) (by kernel_rfl) (by kernel_rfl) (by kernel_rfl) (fun _ _ _ h => h) (Or.inl ⟨by rfl, ?hy10⟩) HSS.out ?rest10
                      case hy10 => (intro V hSw; (try dsimp only at hSw); obtain ⟨hS1, hS2⟩ := hSw; go_simp; try with_reducible rfl)
                      refine wpAnyX_take (i := 13) (v := ?v13) rfl (by kernel_rfl) (by kernel_rfl) (by kernel_rfl) (by kernel_rfl) (fun _ _ _ h => h) (Or.inl ⟨by rfl, ?hy13⟩) HSS.out ?rest13
                      case hy13 => (intro V hSw; (try dsimp only at hSw); obtain ⟨hS1, hS2⟩ := hSw; go_simp; try with_reducible rfl)
                      refine wpAnyX_two (i := 7) (j := 11) (by kernel_rfl) rfl rfl (fun K hK => ?_) (fun K hK => ?_)
                      · refine step_clone w3 (.tmp 89) w3.heap.size Ao no co op HIO3.out HNO.out (Nat.le_refl _) (by omega) rfl rfl (by go_simp) ?_
                        intro AX cX w4 hown4 hb4
                        refine hK _ _ (fun _ => HKP.out w4 hb4) ?_
                        clear hK K
                        refine wpAnyX_one (i := 11) (by kernel_rfl) rfl (fun K hK => ?_)
                        rw [if_pos (by rfl)]
                        go_simp
                        have hb5a := below_new (Below.refl w4.heap.size w4) (.cells #[.string by1] 9)
                        have HX5 := Lib.hid (own_belowK hown4 hb5a)
                        have HB5 := Lib.hid (hb4.trans (hb5a.mono hb4.size))
                        have L5 := Lib.hid ((Blk.new w4 #[.string by1] 9).cell (j := 0) rfl)
                        refine hK _ _ (fun _ => HKP.out _ HB5.out) ?_
                        clear hK K hown4 hb4 hb5a
                        generalize w4.alloc (.cells #[.string by1] 9) = w5 at *
                        generalize w4.heap.size = q5 at *
                        refine wpAnyX_one (i := 12) (by kernel_rfl) rfl (fun K hK => ?_)
                        refine step_cat w5 (.tmp 90) (.tmp 94) w3.heap.size AX no cX (op.map sv) (some ⟨q5, 0, none⟩) 1 1 [.string by1] HX5.out (rd_oneS L5.out) rfl (by intro u hu; simp at hu; subst hu; rfl) HB5.out.size (by omega) rfl rfl (by go_simp) (by go_simp) ?_
                        intro AY cY w6' hown6 hb6
                        have HB6' := Lib.hid (HB5.out.trans hb6)
                        have HOY := Lib.hid hown6
                        clear hown6 hb6 HX5 HB5 L5
                        refine hK _ _ (fun _ => HKP.out _ HB6'.out) ?_
                        clear hK K
                        have HW76 := Lib.hid (HB6'.out.size)
                        have HBK6 : Hid (ButLo w1.heap.size M w1 w6') := Lib.hid (HB3.out.below HB6'.out HLT.out.2.2.2)
                        have HIT6 : Hid (RIn w6'.heap.size M (some ⟨bA, offA, none⟩) (macV t) w6') := Lib.hid ((HIT1.out.but HBK6.out).up (by have := HLT.out; have := HB6'.out.size; omega))
                        have HIO6 : Hid (RIn w6'.heap.size M AY ((op ++ [y]).map sv) w6') := Lib.hid (RIn.of_own (by rw [List.map_append]; show w6'.ownsRow _ _ _ _ _ (op.map sv ++ [sv y]); rw [show sv y = .string by1 by rw [← HBY.out]; rfl]; exact HOY.out) (Nat.le_refl _) HLT.out.2.2.1)
                        have HKM6' : Hid (Blk w6' M 3 [.int .i64 ((m' + 1 : Nat) : Int)]) := Lib.hid (by
                          have h := HKM3.out.below HB6'.out HLT.out.2.2.1
                          rw [show ((m' : Int) + 1) = ((m' + 1 : Nat) : Int) by omega] at h
                          exact h)
                        have HO6' := Lib.hid (own_belowK HO3.out HB6'.out)
                        have HCL := Lib.hid (HREC.out (op ++ [y]) s' (m' + 1) AY (no + 1) cY w6' HIT6.out HIO6.out (by rw [List.length_append, HNO.out]; rfl) HKM6'.out HOP2.out HSL'.out (by have := H200.out; omega))
                        rw [HBV.out] at HCL
                        generalize readA t d (op ++ [y]) s' (m' + 1) [] = R at *
                        refine wpAnyX_one (i := 14) (by kernel_rfl) rfl (fun K hK => ?_)
                        rw [if_pos (by rfl)]
                        go_simp
                        go_at_call 67
                        refine HCL.out.mono ?_
                        rintro e w8 ⟨m8, A8, n8, c8, rfl, hk8, hb8, hn8, hown8, hm8⟩
                        have HK8 := Lib.hid hk8
                        have HB8 := Lib.hid (HBK6.out.trans (hb8.down (by have := HLT.out; have := HW76.out; omega)))
                        have HO8 := Lib.hid (own_but HO6'.out hb8 HM1.out (Nat.le_refl _))
                        have HMR := Lib.hid (Rd.of_own hown8)
                        have HM8 := Lib.hid hm8
                        have HN8 := Lib.hid hn8
                        have HS8 : Hid (w8.cell? ⟨bA, offA + i * 2 + 1, none⟩ = some (.string bv') ∧ w8.cell? ⟨bw, offw + 1, none⟩ = some (.string by1)) := Lib.hid ⟨cell_but (HKP.out _ HB6'.out).1 hb8 (by have := HLT.out; have := HW76.out; omega) HBA.out.2, cell_but (HKP.out _ HB6'.out).2 hb8 (by have := HLT.out; have := HW76.out; omega) HBW.out.1⟩
                        refine hK _ _ (fun _ => HS8.out) ?_
                        clear hK K hk8 hb8 hn8 hown8 hm8 HCL HKM6' HIO6 HIT6 HOY HO6' HBK6
                        refine wpAnyX_take (i := 15) (v := ?v15) rfl (by kernel_rfl) (by kernel_rfl) (by kernel_rfl) (by kernel_rfl) (fun _ _ _ h => h) (Or.inl ⟨by rfl, ?hy15⟩) HS8.out ?rest15
                        case hy15 => (intro V hSw; (try dsimp only at hSw); obtain ⟨hS1, hS2⟩ := hSw; go_simp; try with_reducible rfl)
                        refine wpAnyX_take (i := 16) (v := ?v16) rfl (by kernel_rfl) (by kernel_rfl) (by kernel_rfl) (by kernel_rfl) (fun _ _ _ h => h) (Or.inl ⟨by rfl, ?hy16⟩) HS8.out ?rest16
                        case hy16 => (intro V hSw; (try dsimp only at hSw); obtain ⟨hS1, hS2⟩ := hSw; go_simp; try with_reducible rfl)
                        refine wpAnyX_take (i := 17) (v := ?v17) rfl (by kernel_rfl) (by kernel_rfl) (by kernel_rfl) (by kernel_rfl) (fun _ _ _ h => h) (Or.inl ⟨by rfl, ?hy17⟩) HS8.out ?rest17
                        case hy17 => (intro V hSw; (try dsimp only at hSw); obtain ⟨hS1, hS2⟩ := hSw; go_simp; try with_reducible rfl)
                        refine wpAnyX_one (i := 18) (by kernel_rfl) rfl (fun K hK => ?_)
                        rw [if_pos (by rfl)]
                        go_simp
                        refine hK _ _ (fun _ => HS8.out) ?_
                        clear hK K
                        refine wpAnyX_one (i := 19) (by kernel_rfl) rfl (fun K hK => ?_)
                        rw [if_pos (by rfl)]
                        go_simp
                        refine hK _ _ (fun h => absurd rfl h) ?_
                        clear hK K
                        refine wpAnyX_done (by kernel_rfl) ?_ _
                        clear HKP HSS HS8
                        go_simp
                        by_cases hz : R.1 = 0
                        · have hmm := HRM.out hz
                          have h8 := HM8.out hz
                          have HNY : Hid (readA t (d + 1) op s m [] = stepsA t (readA t d) op ((linesT s).drop (j + 1)) m8 (O' ++ R.2.2)) := Lib.hid (by rw [HNX.out, if_neg (fun e => e hz), ← h8])
                          have HMM : Hid (m8 ≤ 200 ∧ O'.length + R.2.2.length ≤ m8) := Lib.hid (by rw [h8]; exact hmm)
                          have hn8 : n8 ≤ 200 := by have := HMM.out; have := HN8.out; omega
                          have p3 : (((R.1 : Nat) : Int) != 0) = false := by rw [hz]; rfl
                          generalize ((R.1 : Nat) : Int) = V at *
                          clear hz hmm h8
                          go_wp2_with (at_builtin; refine wpList_cat elStr w8 _ _ w1.heap.size A0 n0 c0 (O'.map sv) A8 n8 c8 (R.2.2.map sv) HO8.out HMR.out (by rw [List.length_map]; exact HN8.out) (by intro u hu; obtain ⟨z, _, rfl⟩ := List.mem_map.1 hu; rfl) (by have := HB8.out.size; exact this) (by omega) (by omega) rfl rfl rfl rfl ?_; intro A' c' w9 hown9 hb9)
                          have HB9 := Lib.hid (HB8.out.below hb9 (Nat.le_refl _))
                          have HKM9 := Lib.hid (HK8.out.below hb9 HM1.out)
                          have HO9 : Hid (w9.ownsRow w1.heap.size 9 1 (.slice A' (n0 + n8) c') (n0 + n8) ((O' ++ R.2.2).map sv)) := Lib.hid (by rw [List.map_append]; exact hown9)
                          clear hown9 hb9
                          go_roundw
                          case rel => exact ⟨j + 1, m8, O' ++ R.2.2, A', n0 + n8, c', by omega, by go_num, rfl, by rw [List.length_append, HN8.out, hO'], HMM.out.1, by have := HMM.out; have := HN8.out; omega, HO9, HKM9, HB9, HNY⟩
                          case measure => simp [intOf]; omega
                        · have HE : Hid (readA t (d + 1) op s m [] = (R.1, 0, [])) := Lib.hid (by rw [HNX.out, if_pos hz])
                          have HZ := Lib.hid hz
                          have HBE8 := Lib.hid (HB1.out.trans (HB8.out.down HSZ1.out))
                          have p3 : (((R.1 : Nat) : Int) != 0) = true := by simp; omega
                          generalize R.1 = V at *
                          clear hz
                          go_wp2_with fail
                          go_ret2
                          exact incPost_no HK8.out HBE8.out HE.out HZ.out
                      · rw [if_pos (by rfl)]
                        go_simp
                        have hb4 := below_new (Below.refl w3.heap.size w3) (.cells #[.string by1] 9)
                        have L4 := Lib.hid ((Blk.new w3 #[.string by1] 9).cell (j := 0) rfl)
                        have LB4 := Lib.hid (Blk.new w3 #[.string by1] 9).lt
                        refine hK _ _ (fun _ => HKP.out _ hb4) ?_
                        clear hK K
                        refine wpAnyX_one (i := 7) (by kernel_rfl) rfl (fun K hK => ?_)
                        refine step_clone (w3.alloc (.cells #[.string by1] 9)) (.tmp 89) (w3.alloc (.cells #[.string by1] 9)).heap.size Ao no co op (HIO3.out.below hb4) HNO.out (Nat.le_refl _) (by omega) rfl rfl (by go_simp) ?_
                        intro AX cX w5 hown5 hb5
                        have HX5 := Lib.hid (own_baseF (B' := w3.heap.size) hown5 hb4.size)
                        have HB5 := Lib.hid (hb4.trans (hb5.mono hb4.size))
                        have L5 := Lib.hid ((World.cell?_of_block (hb5.block w3.heap.size LB4.out)).trans L4.out)
                        refine hK _ _ (fun _ => HKP.out _ HB5.out) ?_
                        clear hK K hown5 hb4 hb5 L4 LB4
                        refine wpAnyX_one (i := 12) (by kernel_rfl) rfl (fun K hK => ?_)
                        refine step_cat w5 (.tmp 90) (.tmp 94) w3.heap.size AX no cX (op.map sv) (some ⟨w3.heap.size, 0, none⟩) 1 1 [.string by1] HX5.out (rd_oneS L5.out) rfl (by intro u hu; simp at hu; subst hu; rfl) HB5.out.size (by omega) rfl rfl (by go_simp) (by go_simp) ?_
                        intro AY cY w6' hown6 hb6
                        have HB6' := Lib.hid (HB5.out.trans hb6)
                        have HOY := Lib.hid hown6
                        clear hown6 hb6 HX5 HB5 L5
                        refine hK _ _ (fun _ => HKP.out _ HB6'.out) ?_
                        clear hK K
                        have HW76 := Lib.hid (HB6'.out.size)
                        have HBK6 : Hid (ButLo w1.heap.size M w1 w6') := Lib.hid (HB3.out.below HB6'.out HLT.out.2.2.2)
                        have HIT6 : Hid (RIn w6'.heap.size M (some ⟨bA, offA, none⟩) (macV t) w6') := Lib.hid ((HIT1.out.but HBK6.out).up (by have := HLT.out; have := HB6'.out.size; omega))
                        have HIO6 : Hid (RIn w6'.heap.size M AY ((op ++ [y]).map sv) w6') := Lib.hid (RIn.of_own (by rw [List.map_append]; show w6'.ownsRow _ _ _ _ _ (op.map sv ++ [sv y]); rw [show sv y = .string by1 by rw [← HBY.out]; rfl]; exact HOY.out) (Nat.le_refl _) HLT.out.2.2.1)
                        have HKM6' : Hid (Blk w6' M 3 [.int .i64 ((m' + 1 : Nat) : Int)]) := Lib.hid (by
                          have h := HKM3.out.below HB6'.out HLT.out.2.2.1
                          rw [show ((m' : Int) + 1) = ((m' + 1 : Nat) : Int) by omega] at h
                          exact h)
                        have HO6' := Lib.hid (own_belowK HO3.out HB6'.out)
                        have HCL := Lib.hid (HREC.out (op ++ [y]) s' (m' + 1) AY (no + 1) cY w6' HIT6.out HIO6.out (by rw [List.length_append, HNO.out]; rfl) HKM6'.out HOP2.out HSL'.out (by have := H200.out; omega))
                        rw [HBV.out] at HCL
                        generalize readA t d (op ++ [y]) s' (m' + 1) [] = R at *
                        refine wpAnyX_one (i := 14) (by kernel_rfl) rfl (fun K hK => ?_)
                        rw [if_pos (by rfl)]
                        go_simp
                        go_at_call 67
                        refine HCL.out.mono ?_
                        rintro e w8 ⟨m8, A8, n8, c8, rfl, hk8, hb8, hn8, hown8, hm8⟩
                        have HK8 := Lib.hid hk8
                        have HB8 := Lib.hid (HBK6.out.trans (hb8.down (by have := HLT.out; have := HW76.out; omega)))
                        have HO8 := Lib.hid (own_but HO6'.out hb8 HM1.out (Nat.le_refl _))
                        have HMR := Lib.hid (Rd.of_own hown8)
                        have HM8 := Lib.hid hm8
                        have HN8 := Lib.hid hn8
                        have HS8 : Hid (w8.cell? ⟨bA, offA + i * 2 + 1, none⟩ = some (.string bv') ∧ w8.cell? ⟨bw, offw + 1, none⟩ = some (.string by1)) := Lib.hid ⟨cell_but (HKP.out _ HB6'.out).1 hb8 (by have := HLT.out; have := HW76.out; omega) HBA.out.2, cell_but (HKP.out _ HB6'.out).2 hb8 (by have := HLT.out; have := HW76.out; omega) HBW.out.1⟩
                        refine hK _ _ (fun _ => HS8.out) ?_
                        clear hK K hk8 hb8 hn8 hown8 hm8 HCL HKM6' HIO6 HIT6 HOY HO6' HBK6
                        refine wpAnyX_take (i := 15) (v := ?v15b) rfl (by kernel_rfl) (by kernel_rfl) (by kernel_rfl) (by kernel_rfl) (fun _ _ _ h => h) (Or.inl ⟨by rfl, ?hy15b⟩) HS8.out ?rest15b
                        case hy15b => (intro V hSw; (try dsimp only at hSw); obtain ⟨hS1, hS2⟩ := hSw; go_simp; try with_reducible rfl)
                        refine wpAnyX_take (i := 16) (v := ?v16b) rfl (by kernel_rfl) (by kernel_rfl) (by kernel_rfl) (by kernel_rfl) (fun _ _ _ h => h) (Or.inl ⟨by rfl, ?hy16b⟩) HS8.out ?rest16b
                        case hy16b => (intro V hSw; (try dsimp only at hSw); obtain ⟨hS1, hS2⟩ := hSw; go_simp; try with_reducible rfl)
                        refine wpAnyX_take (i := 17) (v := ?v17b) rfl (by kernel_rfl) (by kernel_rfl) (by kernel_rfl) (by kernel_rfl) (fun _ _ _ h => h) (Or.inl ⟨by rfl, ?hy17b⟩) HS8.out ?rest17b
                        case hy17b => (intro V hSw; (try dsimp only at hSw); obtain ⟨hS1, hS2⟩ := hSw; go_simp; try with_reducible rfl)
                        refine wpAnyX_one (i := 18) (by kernel_rfl) rfl (fun K hK => ?_)
                        rw [if_pos (by rfl)]
                        go_simp
                        refine hK _ _ (fun _ => HS8.out) ?_
                        clear hK K
                        refine wpAnyX_one (i := 19) (by kernel_rfl) rfl (fun K hK => ?_)
                        rw [if_pos (by rfl)]
                        go_simp
                        refine hK _ _ (fun h => absurd rfl h) ?_
                        clear hK K
                        refine wpAnyX_done (by kernel_rfl) ?_ _
                        clear HKP HSS HS8
                        go_simp
                        by_cases hz : R.1 = 0
                        · have hmm := HRM.out hz
                          have h8 := HM8.out hz
                          have HNY : Hid (readA t (d + 1) op s m [] = stepsA t (readA t d) op ((linesT s).drop (j + 1)) m8 (O' ++ R.2.2)) := Lib.hid (by rw [HNX.out, if_neg (fun e => e hz), ← h8])
                          have HMM : Hid (m8 ≤ 200 ∧ O'.length + R.2.2.length ≤ m8) := Lib.hid (by rw [h8]; exact hmm)
                          have hn8 : n8 ≤ 200 := by have := HMM.out; have := HN8.out; omega
                          have p3 : (((R.1 : Nat) : Int) != 0) = false := by rw [hz]; rfl
                          generalize ((R.1 : Nat) : Int) = V at *
                          clear hz hmm h8
                          go_wp2_with (at_builtin; refine wpList_cat elStr w8 _ _ w1.heap.size A0 n0 c0 (O'.map sv) A8 n8 c8 (R.2.2.map sv) HO8.out HMR.out (by rw [List.length_map]; exact HN8.out) (by intro u hu; obtain ⟨z, _, rfl⟩ := List.mem_map.1 hu; rfl) (by have := HB8.out.size; exact this) (by omega) (by omega) rfl rfl rfl rfl ?_; intro A' c' w9 hown9 hb9)
                          have HB9 := Lib.hid (HB8.out.below hb9 (Nat.le_refl _))
                          have HKM9 := Lib.hid (HK8.out.below hb9 HM1.out)
                          have HO9 : Hid (w9.ownsRow w1.heap.size 9 1 (.slice A' (n0 + n8) c') (n0 + n8) ((O' ++ R.2.2).map sv)) := Lib.hid (by rw [List.map_append]; exact hown9)
                          clear hown9 hb9
                          go_roundw
                          case rel => exact ⟨j + 1, m8, O' ++ R.2.2, A', n0 + n8, c', by omega, by go_num, rfl, by rw [List.length_append, HN8.out, hO'], HMM.out.1, by have := HMM.out; have := HN8.out; omega, HO9, HKM9, HB9, HNY⟩
                          case measure => simp [intOf]; omega
                        · have HE : Hid (readA t (d + 1) op s m [] = (R.1, 0, [])) := Lib.hid (by rw [HNX.out, if_pos hz])
                          have HZ := Lib.hid hz
                          have HBE8 := Lib.hid (HB1.out.trans (HB8.out.down HSZ1.out))
                          have p3 : (((R.1 : Nat) : Int) != 0) = true := by simp; omega
                          generalize R.1 = V at *
                          clear hz
                          go_wp2_with fail
                          go_ret2
                          exact incPost_no HK8.out HBE8.out HE.out HZ.out
      · obtain rfl : j = n := by omega
        have HE : Hid (readA t (d + 1) op s m [] = (0, m', O')) := Lib.hid (by rw [HSj.out, List.drop_of_length_le (by rw [HLN.out]; exact Nat.le_refl _), stepsA])
        go_wp2_with fail
        go_ret2
        exact ⟨m', A0, n0, c0, by rw [HE.out]; rfl, HKj.out, HB1.out.trans (HBj.out.down HSZ1.out), by rw [HE.out]; exact hO', by rw [HE.out]; exact own_baseF HOj.out HSZ1.out, fun _ => by rw [HE.out]⟩
end Go.Proofs.YtoandhhkmkgmaaaGreatDoor
