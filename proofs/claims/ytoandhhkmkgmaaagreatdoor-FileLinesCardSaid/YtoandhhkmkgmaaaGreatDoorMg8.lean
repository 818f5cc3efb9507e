/- Some of the proof's texts, merged; each one's own words stand ahead of it. -/
import Derived.Test.YtoandhhkmkgmaaaGreatDoorMg6
import Derived.Test.YtoandhhkmkgmaaaGreatDoorOwn
import Derived.Maps.AppendAt
import Derived.OneCell
import Derived.Lib.IndexMore
import Derived.Lib.IndexLaws
import Derived.Test.YtoandhhkmkgmaaaGreatDoorMg5
import Derived.BigQuiet
import Derived.Deep.QuietTactic
/- Lines joined, in plain Lean: as the program joins them, as the reference does. Contract: line.join. -/
namespace Go.Proofs.YtoandhhkmkgmaaaGreatDoor
open Go.RowKit

/-- The first line of a text, and what stands behind it. -/
def frontN : List UInt8 → List UInt8
  | [] => []
  | c :: t => if c = 10 then [] else c :: frontN t
def backN : List UInt8 → List UInt8
  | [] => []
  | c :: t => if c = 10 then t else backN t
theorem backN_len : ∀ s : List UInt8, s ≠ [] → (backN s).length < s.length
  | [], h => absurd rfl h
  | c :: t, _ => by
    rw [backN]
    split
    · simp
    · by_cases ht : t = []
      · subst ht; simp [backN]
      · have := backN_len t ht; simp; omega
theorem backN_le (s : List UInt8) : (backN s).length ≤ s.length := by
  by_cases h : s = []
  · subst h; exact Nat.le_refl _
  · exact Nat.le_of_lt (backN_len s h)
theorem frontN_le : ∀ s : List UInt8, (frontN s).length ≤ s.length
  | [] => Nat.le_refl _
  | c :: t => by
    rw [frontN]
    have := frontN_le t
    split <;> simp <;> omega
/-- The lines of a text. -/
def linesN : List UInt8 → List (List UInt8)
  | [] => []
  | c :: t => frontN (c :: t) :: linesN (backN (c :: t))
termination_by s => s.length
decreasing_by exact backN_len _ (by simp)
theorem linesN_nil : linesN [] = [] := by rw [linesN]
theorem linesN_cons {s : List UInt8} (h : s ≠ []) : linesN s = frontN s :: linesN (backN s) := by
  cases s with
  | nil => exact absurd rfl h
  | cons c t => rw [linesN]
theorem linesN_emp (s : List UInt8) : (linesN s = []) ↔ s = [] := by
  by_cases h : s = []
  · subst h; simp [linesN_nil]
  · rw [linesN_cons h]; simp [h]
theorem index_nl : ∀ s : List UInt8, Lib.index s [10] = -1 ∧ frontN s = s ∧ backN s = [] ∨ ∃ i : Nat, Lib.index s [10] = (i : Int) ∧ frontN s = s.take i ∧ backN s = s.drop (i + 1)
  | [] => .inl ⟨by simp [Lib.index], rfl, rfl⟩
  | c :: t => by
    by_cases h : c = 10
    · subst h
      right
      refine ⟨0, ?_, by simp [frontN], by simp [backN]⟩
      simp [Lib.index, List.isPrefixOf]
    · have hp : ([10] : List UInt8).isPrefixOf (c :: t) = false := by
        have : ((10 : UInt8) == c) = false := beq_eq_false_iff_ne.2 (fun e => h e.symm)
        simp [List.isPrefixOf, this]
      have hi : Lib.index (c :: t) [10] = if Lib.index t [10] == -1 then -1 else Lib.index t [10] + 1 := by rw [Lib.index, hp]; rfl
      rcases index_nl t with ⟨h1, h2, h3⟩ | ⟨i, h1, h2, h3⟩
      · left
        refine ⟨by rw [hi, h1]; rfl, ?_, ?_⟩
        · rw [frontN, if_neg h, h2]
        · rw [backN, if_neg h, h3]
      · right
        refine ⟨i + 1, ?_, ?_, ?_⟩
        · have : ((i : Int) == -1) = false := by simp
          rw [hi, h1, this]
          simp
        · rw [frontN, if_neg h, h2, List.take_succ_cons]
        · rw [backN, if_neg h, h3, List.drop_succ_cons]
theorem cut_nl (s : List UInt8) : ∃ m, Lib.cut s [10] = (frontN s, backN s, m) := by
  unfold Lib.cut
  rcases index_nl s with ⟨h1, h2, h3⟩ | ⟨i, h1, h2, h3⟩
  · rw [h1, h2, h3]; exact ⟨_, rfl⟩
  · rw [h1, h2, h3, if_pos (by omega)]
    exact ⟨true, rfl⟩
/-- A text with a backslash at its end goes on with the next line. -/
def endsB (s : List UInt8) : Bool := s.getLast? == some 92
def contL (t : List UInt8) : List (List UInt8) → List UInt8 × List (List UInt8)
  | [] => (if endsB t then t.dropLast else t, [])
  | n :: ls => if endsB t then contL (t.dropLast ++ [32] ++ trimLL n) ls else (t, n :: ls)
theorem contL_len : ∀ (ls : List (List UInt8)) (t : List UInt8), (contL t ls).2.length ≤ ls.length
  | [], t => by simp [contL]
  | n :: ls, t => by
    rw [contL]
    split
    · exact Nat.le_trans (contL_len ls (t.dropLast ++ [32] ++ trimLL n)) (Nat.le_succ _)
    · exact Nat.le_refl _
/-- The lines joined; the first one's number is at + 1. -/
def joinL (at_ : Nat) (ls : List (List UInt8)) : List (Nat × List UInt8) := match ls with
  | [] => []
  | l :: ls => (if asideL (contL l ls).1 = [] then [] else [(at_ + 1, asideL (contL l ls).1)]) ++ joinL (at_ + 1 + (ls.length - (contL l ls).2.length)) (contL l ls).2
termination_by ls.length
decreasing_by have := contL_len ls l; simp; omega
theorem joinL_nil (k : Nat) : joinL k [] = [] := by rw [joinL]
theorem joinL_cons (k : Nat) (l : List UInt8) (ls : List (List UInt8)) : joinL k (l :: ls) = (if asideL (contL l ls).1 = [] then [] else [(k + 1, asideL (contL l ls).1)]) ++ joinL (k + 1 + (ls.length - (contL l ls).2.length)) (contL l ls).2 := by rw [joinL]
end Go.Proofs.YtoandhhkmkgmaaaGreatDoor
/- Contract: line.join. -/
namespace Go.Proofs.YtoandhhkmkgmaaaGreatDoor
open Go.RowKit

section
variable {w w' : World} {b : Nat} {t : TypeId} {vs : List Value}
end
/-- Lines as they lie. -/
def lnV (L : List (Nat × List UInt8)) : List Value := L.flatMap fun x => [.int .i64 (x.1 : Int), .string ⟨x.2.toArray⟩]
theorem lnV_snoc (L : List (Nat × List UInt8)) (x : Nat × List UInt8) : lnV (L ++ [x]) = lnV L ++ [.int .i64 (x.1 : Int), .string ⟨x.2.toArray⟩] := by unfold lnV; rw [List.flatMap_append]; rfl
theorem own_belowL {w w' : World} {B : Nat} {e : TypeId} {sz : Nat} {v : Value} {n : Nat} {xs : List Value} (h : w.ownsRow B e sz v n xs) (hb : Below w.heap.size w w') : w'.ownsRow B e sz v n xs :=
  h.kept (w' := w') (row := none) ⟨hb.os, hb.tape, hb.output, hb.size, fun k hk _ => hb.block k hk⟩ (by
    cases hv : v.ownBlock with
    | none => exact .inl rfl
    | some g => exact .inr (by simp))
theorem lnInfo : ∃ i, Tryz.prog.info? 175 = some i ∧ i.zero = some (.agg #[.int .i64 0, .string ⟨#[]⟩]) ∧ i.size = 2 ∧ i.bytes = 24 := by
  have h : (Tryz.prog.info? 175).map (fun i => (i.zero, i.size, i.bytes)) = some (some (.agg #[.int .i64 0, .string ⟨#[]⟩]), 2, 24) := by kernel_rfl
  cases hi : Tryz.prog.info? 175 with
  | none => rw [hi] at h; cases h
  | some i =>
    rw [hi] at h
    simp at h
    exact ⟨i, rfl, h⟩
/-- 'append(out, x)', out the call's own. -/
theorem wpList_pushLn {ops : Array Oper} {rest : List Oper} {o : Oper} {a : Act} {Q : Exit → Act → World → Prop} (wr : World) (s x : Operand) (B : Nat) (A : Option Addr) (n c : Nat) (L : List (Nat × List UInt8)) (p : Nat × List UInt8) (b : ByteArray) (hb0 : b = ⟨p.2.toArray⟩)
    (hown : wr.ownsRow B 175 2 (.slice A n c) n (lnV L)) (hB : B ≤ wr.heap.size) (hn : (n + 1) * 24 ≤ 140737488355328)
    (hgd : o.guard = none) (ho : o.op = .call { callee := .builtin .append, args := #[s, x], argTypes := #[171, 171] })
    (hs : a.eval s = .slice A n c) (hx : a.eval x = .slice (some ⟨wr.heap.size, 0, none⟩) 1 1)
    (h : ∀ g c' w', w'.ownsRow B 175 2 (.slice (some ⟨g, 0, none⟩) (n + 1) c') (n + 1) (lnV (L ++ [p])) → Below B wr w' → wpList Tryz.prog ops Q rest (a.put o.dst (.slice (some ⟨g, 0, none⟩) (n + 1) c')) w') :
    wpList Tryz.prog ops Q (o :: rest) a (wr.alloc (.cells #[.int .i64 (p.1 : Int), .string b] 175)) := by
  subst hb0
  obtain ⟨i, hi, hz, h1, hb⟩ := lnInfo
  have ht : Tryz.prog.underlying 171 = some (.slice 175) := by kernel_rfl
  have hB' : B ≤ (wr.alloc (.cells #[.int .i64 (p.1 : Int), .string ⟨p.2.toArray⟩] 175)).heap.size := by simp; omega
  refine wpList_append_own_at _ hgd s x 171 ho B 175 i _ 2 24 ht hi hz h1 hb rfl (by decide) (.slice A n c) n (lnV L) hs (hown.alloc _) ⟨wr.heap.size, 0, none⟩ 1 1 [.int .i64 (p.1 : Int), .string ⟨p.2.toArray⟩] hx rfl ?_ (by intro u hu; simp at hu; rcases hu with rfl | rfl <;> rfl) (by unfold maxLen; omega) hn hB' ?_
  · intro j u hj
    rw [Addr.add_lit, World.cell?_alloc_at _ _ _ _ rfl, Nat.zero_add]
    simpa using hj
  · intro v' w' hown' hg hnil hor
    have hne : v' ≠ .slice none 0 0 := fun e => by have := (hnil.1 e).2; omega
    rcases hown'.2 with ⟨h', _⟩ | ⟨g, cap, cur, h', _⟩
    · exact absurd h' hne
    · subst h'
      refine h g cap w' (by rw [lnV_snoc]; exact hown') ?_
      exact ((Below.refl B wr).alloc hB _).grown hg hB' (fun k hk => (hown.lt k hk).1)
/-- What is read of the next line. -/
def oneL (T s : List UInt8) : List UInt8 := if T = [] then frontN s else trimLL (frontN s)
theorem endsB_app {T one : List UInt8} (hT : T = [] ∨ ∃ U, T = U ++ [32]) : endsB (T ++ one) = endsB one := by
  unfold endsB
  by_cases h : one = []
  · subst h
    rcases hT with rfl | ⟨U, rfl⟩
    · rfl
    · simp
  · obtain ⟨u, d, rfl⟩ := snoc_of h
    rw [← List.append_assoc]
    simp
theorem dropLast_app {T one : List UInt8} (h : endsB one = true) : (T ++ one).dropLast = T ++ one.dropLast := by
  have : one ≠ [] := fun e => by rw [e] at h; cases h
  exact List.dropLast_append_of_ne_nil this
theorem contL_end {t : List UInt8} {ls : List (List UInt8)} (h : endsB t = false) : contL t ls = (t, ls) := by
  cases ls with
  | nil => rw [contL, h]; rfl
  | cons n ls => rw [contL, h]; rfl
theorem suffix_B (s : List UInt8) : Lib.hasSuffix s [92] = endsB s ∧ Lib.trimSuffix s [92] = if endsB s then s.dropLast else s := by
  have h1 : Lib.hasSuffix s [92] = endsB s := by
    unfold Lib.hasSuffix endsB
    by_cases h : s = []
    · subst h; rfl
    · obtain ⟨u, d, rfl⟩ := snoc_of h
      rw [Bool.eq_iff_iff]
      simp [List.isSuffixOf_iff_suffix, List.suffix_iff_eq_drop]
      exact eq_comm
  refine ⟨h1, ?_⟩
  unfold Lib.trimSuffix
  rw [h1]
  cases h : endsB s with
  | true => rw [if_pos rfl, if_pos rfl, List.dropLast_eq_take]; rfl
  | false => rfl
end Go.Proofs.YtoandhhkmkgmaaaGreatDoor
/- Contract: line.join. -/
namespace Go.Proofs.YtoandhhkmkgmaaaGreatDoor
open Go.RowKit

theorem sCut_any (s : List UInt8) (m : Int) (w : World) (hl : s.length ≤ 1048576) (hm : w.cell? ⟨1, 0, none⟩ = some (.int .i64 m)) :
    Calls Tryz.prog 193 #[.string ⟨s.toArray⟩, .string ⟨#[10]⟩] w fun e w' => ∃ x, e = .returned (.tuple #[.string ⟨(frontN s).toArray⟩, .string ⟨(backN s).toArray⟩, .bool x]) ∧ Below w.heap.size w w' := by
  obtain ⟨x, hx⟩ := cut_nl s
  refine (Tryz.strings_Cut ⟨s.toArray⟩ ⟨#[10]⟩ m w (show s.length < _ by omega) hm).mono ?_
  rintro e w' ⟨rfl, n, rfl⟩
  refine ⟨x, ?_, below_of_drewN _ _⟩
  rw [show (⟨s.toArray⟩ : ByteArray).data.toList = s from rfl, show (⟨#[10]⟩ : ByteArray).data.toList = [10] from rfl, hx]
theorem sCutB_any (s : List UInt8) (w : World) (hl : s.length ≤ 1048576) :
    Calls Tryz.prog 53 #[.string ⟨s.toArray⟩, .string ⟨#[92]⟩] w fun e w' => e = .returned (.tuple #[.string ⟨(if endsB s then s.dropLast else s).toArray⟩, .bool (endsB s)]) ∧ w' = w := by
  obtain ⟨h1, h2⟩ := suffix_B s
  have h := Tryz.strings_CutSuffix ⟨s.toArray⟩ ⟨#[92]⟩ w (show s.length ≤ _ by omega)
  rw [show (⟨s.toArray⟩ : ByteArray).data.toList = s from rfl, show (⟨#[92]⟩ : ByteArray).data.toList = [92] from rfl, h1, h2] at h
  exact h
theorem trimLL_le (s : List UInt8) : (trimLL s).length ≤ s.length := by unfold trimLL; exact (List.dropWhile_sublist _).length_le
theorem front_back (s : List UInt8) : (frontN s).length + (backN s).length ≤ s.length := by
  rcases index_nl s with ⟨_, h2, h3⟩ | ⟨i, h1, h2, h3⟩
  · rw [h2, h3]; simp
  · rw [h2, h3, List.length_take, List.length_drop]; omega
theorem pc_keepL {w w' : World} {b o : Nat} {v : Value} (h : w.cell? ⟨b, o, none⟩ = some v) (hb : Below w.heap.size w w') : w'.cell? ⟨b, o, none⟩ = some v := (hb.cell (p := ⟨b, o, none⟩) (lt_of_cell' h)).trans h
def JnPost (s : List UInt8) (w : World) (e : Ending) (w' : World) : Prop :=
  ∃ A c, e = .returned (.slice A (joinL 0 (linesN s)).length c) ∧ w'.ownsRow w.heap.size 175 2 (.slice A (joinL 0 (linesN s)).length c) (joinL 0 (linesN s)).length (lnV (joinL 0 (linesN s))) ∧ Below w.heap.size w w'
set_option maxRecDepth 100000 in
set_option maxHeartbeats 4000000 in
theorem lnJoin_any (s : List UInt8) (m : Int) (w : World) (hl : s.length ≤ 20000) (hm : w.cell? ⟨1, 0, none⟩ = some (.int .i64 m)) :
    Calls Tryz.prog 168 #[.string ⟨s.toArray⟩] w (JnPost s w) := by
  have HM := Lib.hid hm
  have HML := Lib.hid (lt_of_cell' hm)
  clear hm
  go_enter Tryz.func168, Tryz.ntmps168
  go_wp2_with fail
  go_loopw [0, 3, 4] (fun x y z wr => ∃ (s1 : List UInt8) (L : List (Nat × List UInt8)) (A : Option Addr) (n c at_ : Nat), x = .string ⟨s1.toArray⟩ ∧ y = .slice A n c ∧ z = .int .i64 (at_ : Int) ∧ s1.length + at_ ≤ 20000 ∧ n ≤ at_ ∧ Hid (L.length = n) ∧ Hid (joinL 0 (linesN s) = L ++ joinL at_ (linesN s1)) ∧ Hid (wr.ownsRow w.heap.size 175 2 (.slice A n c) n (lnV L)) ∧ Hid (Below w.heap.size w wr)) (fun x _ _ _ => strLenL x)
  case atStart => exact ⟨s, [], none, 0, 0, 0, rfl, rfl, rfl, by omega, by omega, Lib.hid rfl, Lib.hid rfl, Lib.hid (World.ownsRow_nil _ _ _ _), Lib.hid (Below.refl _ _)⟩
  case round =>
    obtain ⟨s1, L, A, n, c, at_, rfl, rfl, rfl, hsa, hna, HL, HJ, HO, HB⟩ := hrel
    by_cases h0 : s1 = []
    · subst h0
      have HE : Hid (joinL 0 (linesN s) = L) := Lib.hid (by rw [HJ.out, linesN_nil, joinL_nil, List.append_nil])
      go_wp2_with fail
      go_ret
      refine ⟨A, c, by rw [HE.out, HL.out]; rfl, ?_, HB.out⟩
      rw [HE.out, HL.out]
      exact HO.out
    · have hs1p : 0 < s1.length := List.length_pos_iff.2 h0
      have HNE : Hid (s1 ≠ []) := Lib.hid h0
      have hemp : s1.isEmpty = false := by cases s1 with
        | nil => exact absurd rfl h0
        | cons a l => rfl
      have HBK0 := Lib.hid (show Blk (wr.alloc (.cells #[.int .i64 ((at_ : Int) + 1), .string ⟨#[]⟩] 175)) wr.heap.size 175 [.int .i64 ((at_ : Int) + 1), .string ⟨#[]⟩] from Blk.new wr _ _)
      have HB0 := Lib.hid (below_newL (Below.refl wr.heap.size wr) (Below.alloc (Below.refl _ _) (Nat.le_refl _) (.cells #[.int .i64 ((at_ : Int) + 1), .string ⟨#[]⟩] 175)))
      clear h0
      go_upto_region 6 with fail
      generalize wr.alloc (.cells #[.int .i64 ((at_ : Int) + 1), .string ⟨#[]⟩] 175) = w1 at *
      obtain ⟨wo, hwo⟩ : ∃ wo : World, wo = wr := ⟨_, rfl⟩
      subst hwo
      go_wp2_with fail
      go_loopw [0, 4, 6] (fun x y z wi => ∃ (T s2 : List UInt8) (k : Nat) (mo : Bool), x = .string ⟨s2.toArray⟩ ∧ y = .int .i64 (k : Int) ∧ z = .bool mo ∧ T.length + s2.length ≤ 20000 ∧ k + s2.length ≤ 20001 ∧ s2.length ≤ s1.length ∧ Hid (Blk wi wo.heap.size 175 [.int .i64 ((at_ : Int) + 1), .string ⟨T.toArray⟩]) ∧ Hid (Below wo.heap.size wo wi) ∧ Hid (if mo = true then (s2 ≠ [] ∧ (T = [] ∨ ∃ U, T = U ++ [32]) ∧ contL (frontN s1) (linesN (backN s1)) = contL (T ++ oneL T s2) (linesN (backN s2)) ∧ (k = at_ + 1 + ((linesN (backN s1)).length - (linesN (backN s2)).length) ∧ (linesN (backN s2)).length ≤ (linesN (backN s1)).length)) else (contL (frontN s1) (linesN (backN s1)) = (T, linesN s2) ∧ k = at_ + 1 + ((linesN (backN s1)).length - (linesN s2).length) ∧ k + s2.length ≤ 20000 ∧ s2.length < s1.length))) (fun x _ _ _ => strLenL x)
      case atStart => exact ⟨[], s1, at_ + 1, true, rfl, rfl, rfl, by simp; omega, by omega, Nat.le_refl _, HBK0, HB0, Lib.hid (by rw [if_pos rfl]; exact ⟨HNE.out, .inl rfl, rfl, by omega, Nat.le_refl _⟩)⟩
      case round =>
        obtain ⟨T, s2, k, mo, rfl, rfl, rfl, hts, hks, hss, HBK, HBW, HQ⟩ := hrel
        cases mo with
        | true =>
          have hq := HQ.out
          rw [if_pos rfl] at hq
          obtain ⟨hne2, hTT, hCT, hKL⟩ := hq
          have HTT := Lib.hid hTT
          have HCT := Lib.hid hCT
          have HKL := Lib.hid hKL
          have HBL := Lib.hid (backN_len s2 hne2)
          have hfb := front_back s2
          have hbl := backN_len s2 hne2
          have HSC := Lib.hid (sCut_any s2 m wr (by omega) (pc_keepL (pc_keepL HM.out HB.out) HBW.out))
          have HTL := Lib.hid (fun W => sTrimL_any (frontN s2) W)
          have HMS : Hid (strLenL (.string ⟨(backN s2).toArray⟩) < strLenL (.string ⟨s2.toArray⟩)) := Lib.hid hbl
          clear HQ hne2 hTT hCT hKL
          go_wp2_with fail
          refine HSC.out.mono ?_
          rintro e w5 ⟨xb, rfl, hb5⟩
          have HBK5 := Lib.hid (HBK.out.below hb5 HBK.out.lt)
          have HBW5 := Lib.hid (below_newL HBW.out hb5)
          have hd0 := HBK5.out.cell (j := 0) rfl
          have hd1 := HBK5.out.cell (j := 1) rfl
          clear hb5
          by_cases hT : T = []
          · have HONE : oneL T s2 = frontN s2 := if_pos hT
            rw [HONE] at HCT
            have hte : T.isEmpty = true := by rw [hT]; rfl
            clear hT
            go_upto_region 12 with fail
            clear hd0 hd1
            have HBK6 := HBK5
            have HBW6 := HBW5
            have hol : (frontN s2).length ≤ (frontN s2).length := Nat.le_refl _
            have HSB := Lib.hid (sCutB_any (frontN s2) w5 (by have := frontN_le s2; omega))
            have HBT : Hid ((T = [] ∨ ∃ U, T = U ++ [32])) := HTT
            have hc0 := HBK6.out.cell (j := 0) rfl
            have hc1 := HBK6.out.cell (j := 1) rfl
            have hf1 := HBK6.out.free 1
            have htl : (⟨T.toArray⟩ : ByteArray).size = T.length := rfl
            cases he : endsB (frontN s2) with
            | false =>
              rw [he] at HSB
              simp only [Bool.false_eq_true, if_false] at HSB
              have HCA := Lib.hid (cat_bytesL T (frontN s2))
              have hosz : (⟨(frontN s2).toArray⟩ : ByteArray).size = (frontN s2).length := rfl
              have HC2 : Hid (contL (frontN s1) (linesN (backN s1)) = (T ++ (frontN s2), linesN (backN s2))) := Lib.hid (by rw [HCT.out, contL_end (by rw [endsB_app HBT.out]; exact he)])
              have HKL2 := HKL
              clear he
              generalize hbo : (⟨(frontN s2).toArray⟩ : ByteArray) = bo at *
              generalize hbT : (⟨T.toArray⟩ : ByteArray) = bT at *
              have hsum : bT.size + bo.size ≤ 40000 := by omega
              go_wp2_with fail
              refine HSB.out.mono ?_
              rintro e w7 ⟨rfl, rfl⟩
              have HK8 := Lib.hid (HBK6.out.same 1 (.string (bT ++ bo)))
              have HB8 := Lib.hid (HBW6.out.setCell (p := ⟨wo.heap.size, 1, none⟩) (Nat.le_refl _) (.string (bT ++ bo)))
              clear hbo hbT
              go_upto_region 14 with fail
              generalize hw8 : w7.setCell ⟨wo.heap.size, 1, none⟩ (.string (bT ++ bo)) = w8 at *
              clear hw8 hc0 hc1 hf1
              rw [HCA.out] at HK8
              go_wp2_with fail
              exact ⟨⟨T ++ (frontN s2), backN s2, k, false, rfl, rfl, rfl, by rw [List.length_append]; omega, by omega, by omega, HK8, HB8, Lib.hid ⟨HC2.out, HKL2.out.1, by omega, by omega⟩⟩, HMS.out⟩
            | true =>
              rw [he] at HSB
              simp only [if_true] at HSB
              have HCA := Lib.hid (cat_bytesL T (frontN s2).dropLast)
              have hdl : (frontN s2).dropLast.length ≤ (frontN s2).length := by rw [List.length_dropLast]; omega
              have hone : (frontN s2) ≠ [] := fun e => by rw [e] at he; cases he
              have hdl2 : (frontN s2).dropLast.length + 1 ≤ (frontN s2).length := by have := List.length_pos_iff.2 hone; rw [List.length_dropLast]; omega
              have hosz : (⟨(frontN s2).dropLast.toArray⟩ : ByteArray).size = (frontN s2).dropLast.length := rfl
              have HEB : Hid (endsB (T ++ (frontN s2)) = true) := Lib.hid (by rw [endsB_app HBT.out]; exact he)
              have HDL : Hid ((T ++ (frontN s2)).dropLast = T ++ (frontN s2).dropLast) := Lib.hid (dropLast_app he)
              clear he hone
              generalize hbo : (⟨(frontN s2).dropLast.toArray⟩ : ByteArray) = bo at *
              generalize hbT : (⟨T.toArray⟩ : ByteArray) = bT at *
              have hsum : bT.size + bo.size ≤ 40000 := by omega
              go_wp2_with fail
              refine HSB.out.mono ?_
              rintro e w7 ⟨rfl, rfl⟩
              have HK8 := Lib.hid (HBK6.out.same 1 (.string (bT ++ bo)))
              have HB8 := Lib.hid (HBW6.out.setCell (p := ⟨wo.heap.size, 1, none⟩) (Nat.le_refl _) (.string (bT ++ bo)))
              clear hbo hbT
              go_upto_region 14 with fail
              generalize hw8 : w7.setCell ⟨wo.heap.size, 1, none⟩ (.string (bT ++ bo)) = w8 at *
              clear hw8 hc0 hc1 hf1
              rw [HCA.out] at HK8
              by_cases hbe : backN s2 = []
              · have hbe2 : (backN s2).isEmpty = true := by rw [hbe]; rfl
                have HC2 : Hid (contL (frontN s1) (linesN (backN s1)) = (T ++ (frontN s2).dropLast, linesN (backN s2))) := Lib.hid (by rw [HCT.out, hbe, linesN_nil, contL, HEB.out, if_pos rfl, HDL.out])
                clear hbe
                go_wp2_with fail
                exact ⟨⟨T ++ (frontN s2).dropLast, backN s2, k, false, rfl, rfl, rfl, by rw [List.length_append]; omega, by omega, by omega, HK8, HB8, Lib.hid ⟨HC2.out, HKL.out.1, by omega, by omega⟩⟩, HMS.out⟩
              · have hbe2 : (backN s2).isEmpty = false := by cases hq : backN s2 with
                  | nil => exact absurd hq hbe
                  | cons a l => rfl
                have HLC : Hid (linesN (backN s2) = frontN (backN s2) :: linesN (backN (backN s2))) := Lib.hid (linesN_cons hbe)
                have HNE3 : Hid (backN s2 ≠ []) := Lib.hid hbe
                have HC2 : Hid (contL (frontN s1) (linesN (backN s1)) = contL ((T ++ (frontN s2).dropLast ++ [32]) ++ oneL (T ++ (frontN s2).dropLast ++ [32]) (backN s2)) (linesN (backN (backN s2)))) := Lib.hid (by
                  rw [HCT.out, HLC.out, contL, HEB.out, if_pos rfl, HDL.out]
                  unfold oneL
                  rw [if_neg (by simp)])
                have HK2 : Hid (k + 1 = at_ + 1 + ((linesN (backN s1)).length - (linesN (backN (backN s2))).length) ∧ (linesN (backN (backN s2))).length ≤ (linesN (backN s1)).length) := Lib.hid (by
                  have h1 := HKL.out
                  rw [HLC.out, List.length_cons] at h1
                  omega)
                have hc0 := HK8.out.cell (j := 0) rfl
                have hc1 := HK8.out.cell (j := 1) rfl
                have hf1 := HK8.out.free 1
                have HCA2 := Lib.hid (cat_bytesL (T ++ (frontN s2).dropLast) [32])
                have hts : (⟨(T ++ (frontN s2).dropLast).toArray⟩ : ByteArray).size ≤ 40000 := by show (T ++ (frontN s2).dropLast).length ≤ _; rw [List.length_append]; omega
                clear hbe
                generalize hb9 : (⟨(T ++ (frontN s2).dropLast).toArray⟩ : ByteArray) = b9 at *
                have HK9 := Lib.hid (HK8.out.same 1 (.string (b9 ++ ⟨#[32]⟩)))
                have HCA3 : Hid (b9 ++ ⟨#[32]⟩ = (⟨(T ++ (frontN s2).dropLast ++ [32]).toArray⟩ : ByteArray)) := Lib.hid HCA2.out
                have HB9 := Lib.hid (HB8.out.setCell (p := ⟨wo.heap.size, 1, none⟩) (Nat.le_refl _) (.string (b9 ++ ⟨#[32]⟩)))
                have HK10 : Hid (Blk (w8.setCell ⟨wo.heap.size, 1, none⟩ (.string (b9 ++ ⟨#[32]⟩))) wo.heap.size 175 [.int .i64 ((at_ : Int) + 1), .string ⟨(T ++ (frontN s2).dropLast ++ [32]).toArray⟩]) := Lib.hid (by
                  have h := HK9.out
                  generalize w8.setCell ⟨wo.heap.size, 1, none⟩ (.string (b9 ++ ⟨#[32]⟩)) = wz at h ⊢
                  rw [HCA3.out] at h
                  exact h)
                have hfl : (frontN s2).length + (backN s2).length ≤ s2.length := front_back s2
                have hbl2 : (backN s2).length < s2.length := HBL.out
                clear hb9
                go_wp2_with fail
                exact ⟨⟨T ++ (frontN s2).dropLast ++ [32], backN s2, k + 1, true, rfl, rfl, rfl, by rw [List.length_append, List.length_append]; simp only [List.length_cons, List.length_nil]; omega, by omega, by omega, HK10, HB9, Lib.hid ⟨HNE3.out, .inr ⟨_, rfl⟩, HC2.out, HK2.out⟩⟩, HMS.out⟩
          · have HONE : oneL T s2 = trimLL (frontN s2) := if_neg hT
            rw [HONE] at HCT
            have hte : T.isEmpty = false := by cases hq : T with
              | nil => exact absurd hq hT
              | cons a l => rfl
            clear hT
            go_wp2_with fail
            refine (HTL.out _).mono ?_
            rintro e w6 ⟨rfl, hb6⟩
            have HBK6 := Lib.hid (HBK5.out.below hb6 HBK5.out.lt)
            have HBW6 := Lib.hid (below_newL HBW5.out hb6)
            clear hb6 hd0 hd1
            go_upto_region 12 with fail
            have hol : (trimLL (frontN s2)).length ≤ (frontN s2).length := trimLL_le _
            have HSB := Lib.hid (sCutB_any (trimLL (frontN s2)) w6 (by have := frontN_le s2; omega))
            have HBT : Hid ((T = [] ∨ ∃ U, T = U ++ [32])) := HTT
            have hc0 := HBK6.out.cell (j := 0) rfl
            have hc1 := HBK6.out.cell (j := 1) rfl
            have hf1 := HBK6.out.free 1
            have htl : (⟨T.toArray⟩ : ByteArray).size = T.length := rfl
            cases he : endsB (trimLL (frontN s2)) with
            | false =>
              rw [he] at HSB
              simp only [Bool.false_eq_true, if_false] at HSB
              have HCA := Lib.hid (cat_bytesL T (trimLL (frontN s2)))
              have hosz : (⟨(trimLL (frontN s2)).toArray⟩ : ByteArray).size = (trimLL (frontN s2)).length := rfl
              have HC2 : Hid (contL (frontN s1) (linesN (backN s1)) = (T ++ (trimLL (frontN s2)), linesN (backN s2))) := Lib.hid (by rw [HCT.out, contL_end (by rw [endsB_app HBT.out]; exact he)])
              have HKL2 := HKL
              clear he
              generalize hbo : (⟨(trimLL (frontN s2)).toArray⟩ : ByteArray) = bo at *
              generalize hbT : (⟨T.toArray⟩ : ByteArray) = bT at *
              have hsum : bT.size + bo.size ≤ 40000 := by omega
              go_wp2_with fail
              refine HSB.out.mono ?_
              rintro e w7 ⟨rfl, rfl⟩
              have HK8 := Lib.hid (HBK6.out.same 1 (.string (bT ++ bo)))
              have HB8 := Lib.hid (HBW6.out.setCell (p := ⟨wo.heap.size, 1, none⟩) (Nat.le_refl _) (.string (bT ++ bo)))
              clear hbo hbT
              go_upto_region 14 with fail
              generalize hw8 : w7.setCell ⟨wo.heap.size, 1, none⟩ (.string (bT ++ bo)) = w8 at *
              clear hw8 hc0 hc1 hf1
              rw [HCA.out] at HK8
              go_wp2_with fail
              exact ⟨⟨T ++ (trimLL (frontN s2)), backN s2, k, false, rfl, rfl, rfl, by rw [List.length_append]; omega, by omega, by omega, HK8, HB8, Lib.hid ⟨HC2.out, HKL2.out.1, by omega, by omega⟩⟩, HMS.out⟩
            | true =>
              rw [he] at HSB
              simp only [if_true] at HSB
              have HCA := Lib.hid (cat_bytesL T (trimLL (frontN s2)).dropLast)
              have hdl : (trimLL (frontN s2)).dropLast.length ≤ (trimLL (frontN s2)).length := by rw [List.length_dropLast]; omega
              have hone : (trimLL (frontN s2)) ≠ [] := fun e => by rw [e] at he; cases he
              have hdl2 : (trimLL (frontN s2)).dropLast.length + 1 ≤ (trimLL (frontN s2)).length := by have := List.length_pos_iff.2 hone; rw [List.length_dropLast]; omega
              have hosz : (⟨(trimLL (frontN s2)).dropLast.toArray⟩ : ByteArray).size = (trimLL (frontN s2)).dropLast.length := rfl
              have HEB : Hid (endsB (T ++ (trimLL (frontN s2))) = true) := Lib.hid (by rw [endsB_app HBT.out]; exact he)
              have HDL : Hid ((T ++ (trimLL (frontN s2))).dropLast = T ++ (trimLL (frontN s2)).dropLast) := Lib.hid (dropLast_app he)
              clear he hone
              generalize hbo : (⟨(trimLL (frontN s2)).dropLast.toArray⟩ : ByteArray) = bo at *
              generalize hbT : (⟨T.toArray⟩ : ByteArray) = bT at *
              have hsum : bT.size + bo.size ≤ 40000 := by omega
              go_wp2_with fail
              refine HSB.out.mono ?_
              rintro e w7 ⟨rfl, rfl⟩
              have HK8 := Lib.hid (HBK6.out.same 1 (.string (bT ++ bo)))
              have HB8 := Lib.hid (HBW6.out.setCell (p := ⟨wo.heap.size, 1, none⟩) (Nat.le_refl _) (.string (bT ++ bo)))
              clear hbo hbT
              go_upto_region 14 with fail
              generalize hw8 : w7.setCell ⟨wo.heap.size, 1, none⟩ (.string (bT ++ bo)) = w8 at *
              clear hw8 hc0 hc1 hf1
              rw [HCA.out] at HK8
              by_cases hbe : backN s2 = []
              · have hbe2 : (backN s2).isEmpty = true := by rw [hbe]; rfl
                have HC2 : Hid (contL (frontN s1) (linesN (backN s1)) = (T ++ (trimLL (frontN s2)).dropLast, linesN (backN s2))) := Lib.hid (by rw [HCT.out, hbe, linesN_nil, contL, HEB.out, if_pos rfl, HDL.out])
                clear hbe
                go_wp2_with fail
                exact ⟨⟨T ++ (trimLL (frontN s2)).dropLast, backN s2, k, false, rfl, rfl, rfl, by rw [List.length_append]; omega, by omega, by omega, HK8, HB8, Lib.hid ⟨HC2.out, HKL.out.1, by omega, by omega⟩⟩, HMS.out⟩
              · have hbe2 : (backN s2).isEmpty = false := by cases hq : backN s2 with
                  | nil => exact absurd hq hbe
                  | cons a l => rfl
                have HLC : Hid (linesN (backN s2) = frontN (backN s2) :: linesN (backN (backN s2))) := Lib.hid (linesN_cons hbe)
                have HNE3 : Hid (backN s2 ≠ []) := Lib.hid hbe
                have HC2 : Hid (contL (frontN s1) (linesN (backN s1)) = contL ((T ++ (trimLL (frontN s2)).dropLast ++ [32]) ++ oneL (T ++ (trimLL (frontN s2)).dropLast ++ [32]) (backN s2)) (linesN (backN (backN s2)))) := Lib.hid (by
                  rw [HCT.out, HLC.out, contL, HEB.out, if_pos rfl, HDL.out]
                  unfold oneL
                  rw [if_neg (by simp)])
                have HK2 : Hid (k + 1 = at_ + 1 + ((linesN (backN s1)).length - (linesN (backN (backN s2))).length) ∧ (linesN (backN (backN s2))).length ≤ (linesN (backN s1)).length) := Lib.hid (by
                  have h1 := HKL.out
                  rw [HLC.out, List.length_cons] at h1
                  omega)
                have hc0 := HK8.out.cell (j := 0) rfl
                have hc1 := HK8.out.cell (j := 1) rfl
                have hf1 := HK8.out.free 1
                have HCA2 := Lib.hid (cat_bytesL (T ++ (trimLL (frontN s2)).dropLast) [32])
                have hts : (⟨(T ++ (trimLL (frontN s2)).dropLast).toArray⟩ : ByteArray).size ≤ 40000 := by show (T ++ (trimLL (frontN s2)).dropLast).length ≤ _; rw [List.length_append]; omega
                clear hbe
                generalize hb9 : (⟨(T ++ (trimLL (frontN s2)).dropLast).toArray⟩ : ByteArray) = b9 at *
                have HK9 := Lib.hid (HK8.out.same 1 (.string (b9 ++ ⟨#[32]⟩)))
                have HCA3 : Hid (b9 ++ ⟨#[32]⟩ = (⟨(T ++ (trimLL (frontN s2)).dropLast ++ [32]).toArray⟩ : ByteArray)) := Lib.hid HCA2.out
                have HB9 := Lib.hid (HB8.out.setCell (p := ⟨wo.heap.size, 1, none⟩) (Nat.le_refl _) (.string (b9 ++ ⟨#[32]⟩)))
                have HK10 : Hid (Blk (w8.setCell ⟨wo.heap.size, 1, none⟩ (.string (b9 ++ ⟨#[32]⟩))) wo.heap.size 175 [.int .i64 ((at_ : Int) + 1), .string ⟨(T ++ (trimLL (frontN s2)).dropLast ++ [32]).toArray⟩]) := Lib.hid (by
                  have h := HK9.out
                  generalize w8.setCell ⟨wo.heap.size, 1, none⟩ (.string (b9 ++ ⟨#[32]⟩)) = wz at h ⊢
                  rw [HCA3.out] at h
                  exact h)
                have hfl : (frontN s2).length + (backN s2).length ≤ s2.length := front_back s2
                have hbl2 : (backN s2).length < s2.length := HBL.out
                clear hb9
                go_wp2_with fail
                exact ⟨⟨T ++ (trimLL (frontN s2)).dropLast ++ [32], backN s2, k + 1, true, rfl, rfl, rfl, by rw [List.length_append, List.length_append]; simp only [List.length_cons, List.length_nil]; omega, by omega, by omega, HK10, HB9, Lib.hid ⟨HNE3.out, .inr ⟨_, rfl⟩, HC2.out, HK2.out⟩⟩, HMS.out⟩
        | false =>
          have hq := HQ.out
          rw [if_neg (by decide)] at hq
          obtain ⟨hC, hK, hk2, hs2⟩ := hq
          have HMS : Hid (strLenL (.string ⟨s2.toArray⟩) < strLenL (.string ⟨s1.toArray⟩)) := Lib.hid hs2
          have HJ2 : Hid (joinL 0 (linesN s) = L ++ ((if asideL T = [] then [] else [(at_ + 1, asideL T)]) ++ joinL k (linesN s2))) := Lib.hid (by
            rw [HJ.out, linesN_cons HNE.out, joinL_cons, hC, ← hK])
          have hak : at_ + 1 ≤ k := by omega
          have HSC := Lib.hid (lnCut_any T m wr (by omega) (pc_keepL (pc_keepL HM.out HB.out) HBW.out))
          have hc0 := HBK.out.cell (j := 0) rfl
          have hc1 := HBK.out.cell (j := 1) rfl
          clear HQ hC hK
          go_wp2_with fail
          refine HSC.out.mono ?_
          rintro e w9 ⟨rfl, hb9⟩
          have HBK9 := Lib.hid (HBK.out.below hb9 HBK.out.lt)
          have HBW9 := Lib.hid (below_newL HBW.out hb9)
          clear hb9 hc0 hc1
          have hc0 := HBK9.out.cell (j := 0) rfl
          have hc1 := HBK9.out.cell (j := 1) rfl
          have hf1 := HBK9.out.free 1
          have HK10 := Lib.hid (HBK9.out.same 1 (.string ⟨(asideL T).toArray⟩))
          have HB10 := Lib.hid (HBW9.out.setCell (p := ⟨wo.heap.size, 1, none⟩) (Nat.le_refl _) (.string ⟨(asideL T).toArray⟩))
          go_upto_region 19 with fail
          generalize w9.setCell ⟨wo.heap.size, 1, none⟩ (.string ⟨(asideL T).toArray⟩) = w10 at *
          clear hc0 hc1 hf1
          have HO10 := Lib.hid (own_belowL HO.out HB10.out)
          have HBB := Lib.hid (below_newL HB.out HB10.out)
          have hzz := HBB.out.size
          have hc0 := HK10.out.cell (j := 0) rfl
          have hc1 := HK10.out.cell (j := 1) rfl
          by_cases ha : asideL T = []
          · have hae : (asideL T).isEmpty = true := by rw [ha]; rfl
            have HJ3 : Hid (joinL 0 (linesN s) = L ++ joinL k (linesN s2)) := Lib.hid (by rw [HJ2.out, if_pos ha]; rfl)
            clear ha
            go_wp2_with fail
            exact ⟨⟨s2, L, A, n, c, k, rfl, rfl, rfl, by omega, by omega, HL, HJ3, HO10, HBB⟩, HMS.out⟩
          · have hae : (asideL T).isEmpty = false := by cases hq : asideL T with
              | nil => exact absurd hq ha
              | cons a l => rfl
            have HJ3 : Hid (joinL 0 (linesN s) = (L ++ [(at_ + 1, asideL T)]) ++ joinL k (linesN s2)) := Lib.hid (by rw [HJ2.out, if_neg ha, List.append_assoc])
            have hn24 : (n + 1) * 24 ≤ 140737488355328 := by omega
            clear ha
            go_wp2_with (at_builtin; refine wpList_pushLn w10 _ _ w.heap.size A n c L (at_ + 1, asideL T) _ rfl HO10.out hzz hn24 rfl rfl rfl rfl ?_; intro g5 c5 w5 hown5 hb5)
            exact ⟨⟨s2, L ++ [(at_ + 1, asideL T)], some ⟨g5, 0, none⟩, n + 1, c5, k, rfl, rfl, rfl, by omega, by omega, Lib.hid (by simp [HL.out]), HJ3, Lib.hid hown5, Lib.hid (HBB.out.trans hb5)⟩, HMS.out⟩
end Go.Proofs.YtoandhhkmkgmaaaGreatDoor
/- Contracts: line.Join, line.plain. -/
namespace Go.Proofs.YtoandhhkmkgmaaaGreatDoor
open Go.RowKit

/-- The fault of a text of lines. -/
def lnE (s : List UInt8) : Nat := if 20000 < s.length then 2 else if s.any badB then 3 else 0
def JoPost (s : List UInt8) (w : World) (e : Ending) (w' : World) : Prop :=
  Below w.heap.size w w' ∧ ((lnE s ≠ 0 ∧ e = .returned (.tuple #[.slice none 0 0, .int .i64 (lnE s : Int)])) ∨
    ∃ A n c, lnE s = 0 ∧ (joinL 0 (linesN s)).length = n ∧ w'.ownsRow w.heap.size 175 2 (.slice A n c) n (lnV (joinL 0 (linesN s))) ∧ e = .returned (.tuple #[.slice A n c, .int .i64 0]))
set_option maxRecDepth 100000 in
set_option maxHeartbeats 1000000 in
theorem lnJoinC_any (s : List UInt8) (m : Int) (w : World) (hl : s.length ≤ 9223372036854775807) (hm : w.cell? ⟨1, 0, none⟩ = some (.int .i64 m)) :
    Calls Tryz.prog 116 #[.string ⟨s.toArray⟩] w (JoPost s w) := by
  have hsz : (⟨s.toArray⟩ : ByteArray).size = s.length := rfl
  by_cases hb : 20000 < s.length
  · have HE : Hid (lnE s = 2) := Lib.hid (by unfold lnE; rw [if_pos hb])
    generalize (⟨s.toArray⟩ : ByteArray) = b at *
    have h2 : 20000 < b.size := by omega
    clear hsz hb hl hm
    go_enter Tryz.func116, Tryz.ntmps116
    go_wp2_with fail
    go_ret2
    exact ⟨Below.refl _ _, .inl ⟨by rw [HE.out]; decide, by rw [HE.out]; rfl⟩⟩
  · have HBD := Lib.hid (lnBad_any s hl w)
    have HJN := Lib.hid (lnJoin_any s m w (by omega) hm)
    have HNB := Lib.hid hb
    generalize (⟨s.toArray⟩ : ByteArray) = b at *
    have h2 : b.size ≤ 20000 := by omega
    clear hsz hb hl hm
    cases hq : s.any badB with
    | true =>
      have HE : Hid (lnE s = 3) := Lib.hid (by unfold lnE; rw [if_neg HNB.out, hq]; rfl)
      rw [hq] at HBD
      clear hq
      go_enter Tryz.func116, Tryz.ntmps116
      go_wp2_with fail
      refine HBD.out.mono ?_
      rintro e w' ⟨rfl, rfl⟩
      go_wp2_with fail
      go_ret2
      exact ⟨Below.refl _ _, .inl ⟨by rw [HE.out]; decide, by rw [HE.out]; rfl⟩⟩
    | false =>
      have HE : Hid (lnE s = 0) := Lib.hid (by unfold lnE; rw [if_neg HNB.out, hq]; rfl)
      rw [hq] at HBD
      clear hq
      go_enter Tryz.func116, Tryz.ntmps116
      go_wp2_with fail
      refine HBD.out.mono ?_
      rintro e w' ⟨rfl, rfl⟩
      go_wp2_with fail
      refine HJN.out.mono ?_
      rintro e w2 ⟨A, c, rfl, hown, hb2⟩
      have HO := Lib.hid hown
      have HB := Lib.hid hb2
      clear hown hb2
      go_wp2_with fail
      go_ret2
      exact ⟨HB.out, .inr ⟨A, _, c, HE.out, rfl, HO.out, rfl⟩⟩
def plainL (s : List UInt8) : Bool := if lnE (shownL s) = 0 then (match joinL 0 (linesN (shownL s)) with | [x] => decide (x.2 = s) | _ => false) else false
theorem lnV_at0 {w : World} {B : Nat} {A : Option Addr} {c : Nat} {x : Nat × List UInt8} (h : w.ownsRow B 175 2 (.slice A 1 c) 1 (lnV [x])) : ∃ g, A = some ⟨g, 0, none⟩ ∧ w.cell? ⟨g, 0, none⟩ = some (.int .i64 (x.1 : Int)) ∧ w.cell? ⟨g, 1, none⟩ = some (.string ⟨x.2.toArray⟩) := by
  rcases h.2 with ⟨_, h0⟩ | ⟨g, cap, cur, hv, _, hh, _, _, _, _⟩
  · omega
  · injection hv with hA _ _
    subst hA
    have h0 := h.cells (g := g) rfl 0 (.int .i64 (x.1 : Int)) rfl
    have h1 := h.cells (g := g) rfl 1 (.string ⟨x.2.toArray⟩) rfl
    unfold Addr.add at h0 h1
    exact ⟨g, rfl, by simpa using h0, by simpa using h1⟩
theorem eq_svL (x y : List UInt8) : ((⟨x.toArray⟩ : ByteArray).toList == (⟨y.toArray⟩ : ByteArray).toList) = decide (x = y) := by
  rw [Lib.toList_data, Lib.toList_data, Bool.eq_iff_iff]; simp
end Go.Proofs.YtoandhhkmkgmaaaGreatDoor
/- Contracts: the reference's SameLines at the same lines; lines as they come in; the text of lines, in plain Lean. -/
namespace Go.Proofs.YtoandhhkmkgmaaaGreatDoor
open Go.RowKit

/-- Lines as they come in. -/
def lnZ (L : List (Int × List UInt8)) : List Value := L.flatMap fun x => [.int .i64 x.1, .string ⟨x.2.toArray⟩]
end Go.Proofs.YtoandhhkmkgmaaaGreatDoor
