/- Contracts that the law's proof leans on, and plain lemmas to them, merged. No condition beyond each contract's own hypotheses. -/
import Derived.Test.YtoandhhkmkgmaaaGreatDoorMg15
import Derived.Test.YtoandhhkmkgmaaaGreatDoorMg10
import Derived.Test.YtoandhhkmkgmaaaGreatDoorMg16
import Derived.Deep.RegionHeld3
namespace Go.Proofs.YtoandhhkmkgmaaaGreatDoor
open Go.RowKit

theorem wEnd_blank {x : List (List UInt8) × List UInt8} {c : UInt8} (h : blankB c = true) : wEnd (wStep x c) = wEnd x := by
 unfold wStep
 rw [if_pos h]
 cases hq : x.2.isEmpty with
 | true => rw [if_pos rfl]
 | false =>
   simp only [Bool.false_eq_true, if_false]
   unfold wEnd
   rw [hq]
   simp
theorem words_right : ∀ r : List UInt8, wordsL (r.dropWhile blankB).reverse = wordsL r.reverse
 | [] => rfl
 | c :: r => by
   cases h : blankB c with
   | true =>
     rw [List.dropWhile_cons, if_pos h, words_right r, List.reverse_cons]
     unfold wordsL
     rw [wFold_snoc, wEnd_blank h]
   | false => rw [List.dropWhile_cons, if_neg (by simp [h])]
theorem words_left : ∀ s : List UInt8, wordsL (trimLL s) = wordsL s
 | [] => rfl
 | c :: s => by
   rw [trimLL_cons]
   cases h : blankB c with
   | true =>
     rw [if_pos rfl, words_left s]
     unfold wordsL wFold
     rw [List.foldl_cons]
     have e : wStep ([], []) c = ([], []) := by unfold wStep; rw [if_pos h]; rfl
     rw [e]
   | false => rfl
theorem words_trim (s : List UInt8) : wordsL (trimBL s) = wordsL s := by
 unfold trimBL trimRL
 rw [words_right, List.reverse_reverse, words_left]
theorem sp_grow (c : UInt8) : ∀ (s : List UInt8) (X : List (List UInt8)) (U : List UInt8), ∃ Y, (s.foldl (spStep c) (X, U)).1 = X ++ Y
 | [], X, U => ⟨[], by simp⟩
 | d :: s, X, U => by
   rw [List.foldl_cons]
   unfold spStep
   split
   ·obtain ⟨Y, hY⟩ := sp_grow c s (X ++ [U]) []
    exact ⟨U :: Y, by rw [show (fun x d => if d = c then (x.1 ++ [x.2], []) else (x.1, x.2 ++ [d])) = spStep c from rfl, hY]; simp⟩
   ·obtain ⟨Y, hY⟩ := sp_grow c s X (U ++ [d])
    exact ⟨Y, by rw [show (fun x d => if d = c then (x.1 ++ [x.2], []) else (x.1, x.2 ++ [d])) = spStep c from rfl, hY]⟩
theorem sp_none (c : UInt8) : ∀ (s : List UInt8) (X : List (List UInt8)) (U : List UInt8), c ∉ s → s.foldl (spStep c) (X, U) = (X, U ++ s)
 | [], X, U, _ => by simp
 | d :: s, X, U, h => by
   have hd : ¬ d = c := fun e => h (by rw [e]; exact List.mem_cons_self ..)
   rw [List.foldl_cons, show spStep c (X, U) d = (X, U ++ [d]) by unfold spStep; rw [if_neg hd], sp_none c s X (U ++ [d]) (fun hm => h (List.mem_cons_of_mem _ hm))]
   simp
theorem spF_none {c : UInt8} {s : List UInt8} (h : c ∉ s) : spF c s = ([], s) := by unfold spF; rw [sp_none c s [] [] h]; rfl
theorem spF_some {c : UInt8} {s : List UInt8} {k : Nat} (hk : s[k]? = some c) (hn : c ∉ s.take k) : ∃ Y, (spF c s).1 = s.take k :: Y := by
 have hs : s = s.take k ++ c :: s.drop (k + 1) := by
  obtain ⟨hlt, hx⟩ := List.getElem?_eq_some_iff.1 hk
  rw [← hx, ← List.drop_eq_getElem_cons hlt, List.take_append_drop]
 unfold spF
 rw [hs, List.foldl_append, sp_none c _ [] [] hn, List.foldl_cons]
 have e : spStep c ([], [] ++ s.take k) c = ([s.take k], []) := by unfold spStep; rw [if_pos rfl]; rfl
 rw [e]
 obtain ⟨Y, hY⟩ := sp_grow c (s.drop (k + 1)) [s.take k] []
 rw [← hs]
 exact ⟨Y, hY⟩
def halves (s : List UInt8) : RuleT := (wordsL (s.take (s.idxOf 58)), wordsL (s.drop (s.idxOf 58 + 1)))
def parseR (s : List UInt8) : Nat × RuleT := if 58 ∈ s then (if rlE (halves s) = 0 then (0, halves s) else (rlE (halves s), ([], []))) else (3, ([], []))
theorem parse_no {s : List UInt8} (h : (58 : UInt8) ∉ s) : parseR s = (3, ([], [])) := by unfold parseR; rw [if_neg h]
theorem idx_at {s : List UInt8} {c : UInt8} {k : Nat} (hk : s[k]? = some c) (hn : c ∉ s.take k) : s.idxOf c = k := by
 obtain ⟨hlt, hx⟩ := List.getElem?_eq_some_iff.1 hk
 have h1 : s.idxOf c < s.length := List.idxOf_lt_length_of_mem (List.mem_of_getElem? hk)
 have h2 : s[s.idxOf c]? = some c := by rw [List.getElem?_eq_getElem h1, List.getElem_idxOf h1]
 rcases Nat.lt_trichotomy (s.idxOf c) k with h | h | h
 ·exact absurd (List.mem_of_getElem? (i := s.idxOf c) (by rw [List.getElem?_take, if_pos h]; exact h2)) hn
 ·exact h
 ·exact absurd hx (by
   have := List.not_of_lt_findIdx (p := (· == c)) (xs := s) (i := k) h
   simpa using this)
theorem halves_at {s : List UInt8} {k : Nat} (hk : s[k]? = some 58) (hn : (58 : UInt8) ∉ s.take k) : halves s = (wordsL (s.take k), wordsL (s.drop (k + 1))) := by unfold halves; rw [idx_at hk hn]
theorem rparse_bad {s : List UInt8} (h : (58 : UInt8) ∈ s) (he : rlE (halves s) ≠ 0) : parseR s = (rlE (halves s), ([], [])) := by unfold parseR; rw [if_pos h, if_neg he]
theorem parse_good {s : List UInt8} (h : (58 : UInt8) ∈ s) (he : rlE (halves s) = 0) : parseR s = (0, halves s) := by unfold parseR; rw [if_pos h, if_pos he]
theorem words_len (s : List UInt8) : (wordsL s).length ≤ s.length + 1 := by
 have h := wFold_len s s.length
 rw [List.take_of_length_le (Nat.le_refl _)] at h
 unfold wordsL wEnd
 split
 ·omega
 ·rw [List.length_append]; simp only [List.length_singleton]; omega
def WLe (n : Nat) (x : List (List UInt8) × List UInt8) : Prop := x.2.length ≤ n ∧ ∀ y ∈ x.1, y.length ≤ n
theorem words_each (s : List UInt8) : ∀ y ∈ wordsL s, y.length ≤ s.length := by
 have key : ∀ i, i ≤ s.length → WLe i (wFold (s.take i)) := by
  intro i
  induction i with
  | zero => intro _; exact ⟨Nat.le_refl _, fun y hy => by cases hy⟩
  | succ i ih =>
    intro hi
    obtain ⟨h1, h2⟩ := ih (by omega)
    rw [take_snocL (List.getElem?_eq_getElem (show i < s.length by omega)), wFold_snoc]
    unfold wStep
    split
    ·split
     ·exact ⟨by omega, fun y hy => by have := h2 y hy; omega⟩
     ·refine ⟨by simp, fun y hy => ?_⟩
      rcases List.mem_append.1 hy with hy | hy
      ·have := h2 y hy; omega
      ·rw [List.mem_singleton.1 hy]; omega
    ·exact ⟨by simp; omega, fun y hy => by have := h2 y hy; omega⟩
 have h := key s.length (Nat.le_refl _)
 rw [List.take_of_length_le (Nat.le_refl _)] at h
 obtain ⟨h1, h2⟩ := h
 intro y hy
 unfold wordsL wEnd at hy
 split at hy
 ·exact h2 y hy
 ·rcases List.mem_append.1 hy with hy | hy
  ·exact h2 y hy
  ·rw [List.mem_singleton.1 hy]; exact h1
def FreshA (w : World) (A : Option Addr) : Prop := ∀ g o f, A = some ⟨g, o, f⟩ → w.heap.size ≤ g
theorem freshA_none (w : World) : FreshA w none := fun g o f h => by cases h
theorem freshA_own {w w' : World} {B : Nat} {e : TypeId} {sz : Nat} {A : Option Addr} {n c : Nat} {xs : List Value} (h : w'.ownsRow B e sz (.slice A n c) n xs) (hB : w.heap.size ≤ B) : FreshA w A := fun g o f hA => by
 subst hA
 have := (h.lt g rfl).1
 omega
def PaPostG (s : List UInt8) (w : World) (e : Ending) (w' : World) : Prop :=
 ∃ A1 c1 A2 c2, e = .returned (.tuple #[rlV A1 (parseR s).2.1.length c1 A2 (parseR s).2.2.length c2, .int .i64 ((parseR s).1 : Nat)]) ∧ Rd w' A1 ((parseR s).2.1.map sv) ∧ Rd w' A2 ((parseR s).2.2.map sv) ∧ Below w.heap.size w w' ∧ FreshA w A1 ∧ FreshA w A2 ∧ (parseR s).2.1.length ≤ c1 ∧ (parseR s).2.2.length ≤ c2
theorem own_room {w : World} {B n c z : Nat} {e : TypeId} {A : Option Addr} {xs : List Value} (h : w.ownsRow B e z (.slice A n c) n xs) : n ≤ c := by
 rcases h.2 with ⟨h1, h2⟩ | ⟨g, cap, cur, h1, _, _, h2, _⟩
 ·omega
 ·injection h1 with _ _ h1
  omega
theorem flat_snoc {l : List (List UInt8)} {k : Nat} {x : List UInt8} (h : l[k]? = some x) (f : List UInt8 → List UInt8) : (l.take (k + 1)).flatMap f = (l.take k).flatMap f ++ f x := by rw [take_snocS h, List.flatMap_append]; simp
section
variable {A1 A2 : Option Addr} {n1 c1 n2 c2 : Nat} {r : RuleT} (w : World) (hr : RlIn A1 n1 c1 A2 n2 c2 r w)
include hr
end
theorem rlIn_words {w : World} {B1 B2 : Nat} {A1 A2 : Option Addr} {c1 c2 : Nat} {x y : List UInt8} (h1 : w.ownsRow B1 9 1 (.slice A1 (wordsL x).length c1) (wordsL x).length ((wordsL x).map sv)) (h2 : w.ownsRow B2 9 1 (.slice A2 (wordsL y).length c2) (wordsL y).length ((wordsL y).map sv))
 (hx : x.length ≤ 2001) (hy : y.length ≤ 2001) : RlIn A1 (wordsL x).length c1 A2 (wordsL y).length c2 (wordsL x, wordsL y) w := by
 have key : ∀ {B : Nat} {A : Option Addr} {c n : Nat} {l : List Value}, w.ownsRow B 9 1 (.slice A n c) n l → n ≤ c := fun {B A c n l} h => by
  rcases Nat.eq_zero_or_pos n with h0 | h0
  ·omega
  ·exact (own_more h h0).choose_spec.2
 have e1 := words_len x
 have e2 := words_len y
 exact ⟨Rd.of_own h1, Rd.of_own h2, rfl, rfl, by omega, by omega, key h1, key h2, fun s hs => by have := words_each x s hs; omega, fun s hs => by have := words_each y s hs; omega⟩
theorem rd_setR {w : World} {b j : Nat} {v : Value} {A : Option Addr} {xs : List Value} (h : Rd w A xs) (hb : ∀ g off, A = some ⟨g, off, none⟩ → 0 < xs.length → g ≠ b) : Rd (w.setCell ⟨b, j, none⟩ v) A xs := fun hn => by
 obtain ⟨g, off, hA, hlt, hc⟩ := h hn
 refine ⟨g, off, hA, by simpa using hlt, fun k u hk => ?_⟩
 rw [World.cell?_of_block (w := w) (Below.heap_setCell _ _ _ _ (by show g ≠ b; exact hb g off hA hn))]
 exact hc k u hk
theorem rd_own_ne {w : World} {B n c b : Nat} {A : Option Addr} {xs : List Value} {e : TypeId} (h : w.ownsRow B e 1 (.slice A n c) n xs) (hb : b < B) : ∀ g off, A = some ⟨g, off, none⟩ → 0 < xs.length → g ≠ b := fun g off hA _ => by
 rcases h.2 with ⟨hv, _⟩ | ⟨g', cap, cur, hv, hg, _⟩
 ·injection hv with hv _ _; rw [hA] at hv; cases hv
 ·injection hv with hv _ _
  rw [hA] at hv
  injection hv with hv
  injection hv with hv _ _
  omega
theorem take_le500 {s : List UInt8} {B : Nat} (h : s.length ≤ B) (k : Nat) : (s.take k).length ≤ B := by rw [List.length_take]; omega
theorem drop_le500 {s : List UInt8} {B : Nat} (h : s.length ≤ B) (k : Nat) : (s.drop k).length ≤ B := by rw [List.length_drop]; omega
theorem trimBL_len (s : List UInt8) : (trimBL s).length ≤ s.length := by
 unfold trimBL trimRL trimLL
 rw [List.length_reverse]
 have h1 := (List.dropWhile_sublist blankB (l := (s.dropWhile blankB).reverse)).length_le
 have h2 := (List.dropWhile_sublist blankB (l := s)).length_le
 rw [List.length_reverse] at h1
 omega
theorem Rd.cast_nil {w : World} {l : List (List UInt8)} (h : l = []) : Rd w none (l.map sv) := by rw [h]; exact Rd.nil_ _ _
set_option maxRecDepth 100000 in
set_option maxHeartbeats 4000000 in
theorem rlParseG_any (s : List UInt8) (w : World) (hl : s.length ≤ 2001) : Calls Tryz.prog 37 #[.string ⟨s.toArray⟩] w (PaPostG s w) := by
 have HL := Lib.hid hl
 have HSP := Lib.hid (fun W => lnSplit_any s 58 (by omega) W)
 have HBK := Lib.hid (show Blk (w.alloc (.cells #[.slice none 0 0, .slice none 0 0] 78)) w.heap.size 78 [.slice none 0 0, .slice none 0 0] from Blk.new w _ _)
 have HB0 := Lib.hid (below_new (Below.refl w.heap.size w) (.cells #[.slice none 0 0, .slice none 0 0] 78))
 clear hl
 go_enter Tryz.func37, Tryz.ntmps37
 go_upto_region 1 with fail
 generalize w.alloc (.cells #[.slice none 0 0, .slice none 0 0] 78) = w0 at *
 generalize hbs : (⟨s.toArray⟩ : ByteArray) = bs at *
 have HBS := Lib.hid hbs
 clear hbs
 go_wp2_with fail
 refine (HSP.out _).mono ?_
 rintro e w1 ⟨hb1, hcs⟩
 have HB1 := Lib.hid (below_then HB0.out hb1)
 have HK1 := Lib.hid (HBK.out.below hb1 HBK.out.lt)
 clear hb1
 rcases hcs with ⟨hno, rfl⟩ | ⟨k, hk1, hk2, rfl⟩
 ·have HP := Lib.hid (parse_no hno)
  have hc0 := HK1.out.cell (j := 0) rfl
  have hc1 := HK1.out.cell (j := 1) rfl
  have hf0 := HK1.out.free 0
  have hf1 := HK1.out.free 1
  clear hno
  go_wp2_with fail
  have RZ := Lib.hid ((HK1.out.same 0 (.slice none 0 0)).same 1 (.slice none 0 0))
  have BZ := Lib.hid ((HB1.out.setCell (p := ⟨w.heap.size, 0, none⟩) (Nat.le_refl _) (.slice none 0 0)).setCell (p := ⟨w.heap.size, 1, none⟩) (Nat.le_refl _) (.slice none 0 0))
  generalize (w1.setCell ⟨w.heap.size, 0, none⟩ (.slice none 0 0)).setCell ⟨w.heap.size, 1, none⟩ (.slice none 0 0) = wz at *
  have q1 := RZ.out.cell (j := 0) rfl
  have q2 := RZ.out.cell (j := 1) rfl
  refine bodyPost_ret (v := .tuple #[.agg #[.slice none 0 0, .slice none 0 0], .int .i64 3]) (by simp [results, Tryz.results37, go_sem, q1, q2]) rfl ?_
  exact ⟨none, 0, none, 0, by rw [HP.out]; rfl, Rd.cast_nil (by rw [HP.out]), Rd.cast_nil (by rw [HP.out]), BZ.out, freshA_none _, freshA_none _, by rw [HP.out]; exact Nat.le_refl _, by rw [HP.out]; exact Nat.le_refl _⟩
 ·obtain ⟨ts, hts⟩ : ∃ ts, wordsL (trimBL (s.take k)) = ts := ⟨_, rfl⟩
  obtain ⟨ns, hns⟩ : ∃ ns, wordsL (trimBL (s.drop (k + 1))) = ns := ⟨_, rfl⟩
  have hxl := Nat.le_trans (trimBL_len (s.take k)) (take_le500 HL.out k)
  have hyl := Nat.le_trans (trimBL_len (s.drop (k + 1))) (drop_le500 HL.out (k + 1))
  have HQ : Hid (halves s = (ts, ns)) := Lib.hid (by rw [halves_at hk1 hk2, ← hts, ← hns, words_trim, words_trim])
  have HM : Hid ((58 : UInt8) ∈ s) := Lib.hid (List.mem_of_getElem? hk1)
  have HW1 := Lib.hid (fun W => lnWords_any (trimBL (s.take k)) (by omega) W)
  have HW2 := Lib.hid (fun W => lnWords_any (trimBL (s.drop (k + 1))) (by omega) W)
  have HIN := Lib.hid (fun (W : World) (B1 B2 : Nat) (A1 A2 : Option Addr) (c1 c2 : Nat) h1 h2 => rlIn_words (w := W) (B1 := B1) (B2 := B2) (A1 := A1) (A2 := A2) (c1 := c1) (c2 := c2) (x := trimBL (s.take k)) (y := trimBL (s.drop (k + 1))) h1 h2 hxl hyl)
  rw [hts] at HW1
  rw [hns] at HW2
  rw [hts, hns] at HIN
  generalize (⟨(trimBL (s.take k)).toArray⟩ : ByteArray) = bx at *
  generalize (⟨(trimBL (s.drop (k + 1))).toArray⟩ : ByteArray) = by_ at *
  clear hxl hyl hts hns hk1 hk2
  go_wp2_with fail
  refine (HW1.out _).mono ?_
  rintro e w2 ⟨A1, rfl, ho2, hb2⟩
  have HO2 := Lib.hid ho2
  have HB2 := Lib.hid (below_then HB1.out hb2)
  have HK2 := Lib.hid (HK1.out.below hb2 HK1.out.lt)
  have HLE2 := Lib.hid hb2.size
  clear ho2 hb2
  go_wp2_with fail
  refine (HW2.out _).mono ?_
  rintro e w3 ⟨A2, rfl, ho3, hb3⟩
  have HO3 := Lib.hid ho3
  have HO23 := Lib.hid (own_below HO2.out hb3)
  have HB3 := Lib.hid (below_then HB2.out hb3)
  have HK3 := Lib.hid (HK2.out.below hb3 HK2.out.lt)
  clear ho3 hb3
  have HKR := Lib.hid (show Blk (w3.alloc (.cells #[.slice (some ⟨A1, 0, none⟩) ts.length ts.length, .slice (some ⟨A2, 0, none⟩) ns.length ns.length] 78)) w3.heap.size 78 [.slice (some ⟨A1, 0, none⟩) ts.length ts.length, .slice (some ⟨A2, 0, none⟩) ns.length ns.length] from Blk.new w3 _ _)
  have hba := below_new (Below.refl w3.heap.size w3) (.cells #[.slice (some ⟨A1, 0, none⟩) ts.length ts.length, .slice (some ⟨A2, 0, none⟩) ns.length ns.length] 78)
  have HB4 := Lib.hid (below_then HB3.out hba)
  have HK4 := Lib.hid (HK3.out.below hba HK3.out.lt)
  have HRL := Lib.hid ((HIN.out _ _ _ _ _ _ _ HO23.out HO3.out).below hba)
  have HNE : Hid (w3.heap.size ≠ w.heap.size) := Lib.hid (by have := HB3.out.size; have := HK3.out.lt; omega)
  have HA1 := Lib.hid (own_below HO23.out hba)
  have HA2 := Lib.hid (own_below HO3.out hba)
  have HS1 : Hid (w.heap.size < w1.heap.size) := Lib.hid HK1.out.lt
  have HS2 : Hid (w.heap.size < w2.heap.size) := Lib.hid HK2.out.lt
  clear hba
  go_upto_region 5 with fail
  generalize w3.alloc (.cells #[.slice (some ⟨A1, 0, none⟩) ts.length ts.length, .slice (some ⟨A2, 0, none⟩) ns.length ns.length] 78) = w4 at *
  generalize hBR : w3.heap.size = BR at *
  clear hBR
  have HCK := Lib.hid (rlCheck_any w4 HRL.out)
  unfold rlV at HCK
  have hr0 := HKR.out.cell (j := 0) rfl
  have hr1 := HKR.out.cell (j := 1) rfl
  go_wp2_with fail
  refine HCK.out.mono ?_
  rintro e w5 ⟨rfl, hb5⟩
  have HB5 := Lib.hid (below_then HB4.out hb5)
  have HK5 := Lib.hid (HK4.out.below hb5 HK4.out.lt)
  have HKR5 := Lib.hid (HKR.out.below hb5 HKR.out.lt)
  have HA15 := Lib.hid (own_below HA1.out hb5)
  have HA25 := Lib.hid (own_below HA2.out hb5)
  clear hb5 hr0 hr1
  have hc0 := HK5.out.cell (j := 0) rfl
  have hc1 := HK5.out.cell (j := 1) rfl
  have hf0 := HK5.out.free 0
  have hf1 := HK5.out.free 1
  have hr0 := HKR5.out.cell (j := 0) rfl
  have hr1 := HKR5.out.cell (j := 1) rfl
  by_cases h0 : rlE (ts, ns) = 0
  ·have HP : Hid (parseR s = (0, (ts, ns))) := Lib.hid (by rw [← HQ.out]; exact parse_good HM.out (by rw [HQ.out]; exact h0))
   rw [h0]
   clear h0
   go_wp2_with fail
   have RZ := Lib.hid ((HK5.out.same 0 (.slice (some ⟨A1, 0, none⟩) ts.length ts.length)).same 1 (.slice (some ⟨A2, 0, none⟩) ns.length ns.length))
   have BZ := Lib.hid ((HB5.out.setCell (p := ⟨w.heap.size, 0, none⟩) (Nat.le_refl _) (.slice (some ⟨A1, 0, none⟩) ts.length ts.length)).setCell (p := ⟨w.heap.size, 1, none⟩) (Nat.le_refl _) (.slice (some ⟨A2, 0, none⟩) ns.length ns.length))
   have R1 := Lib.hid (rd_setR (j := 1) (v := .slice (some ⟨A2, 0, none⟩) ns.length ns.length) (rd_setR (j := 0) (v := .slice (some ⟨A1, 0, none⟩) ts.length ts.length) (Rd.of_own HA15.out) (rd_own_ne HA15.out HS1.out)) (rd_own_ne HA15.out HS1.out))
   have R2 := Lib.hid (rd_setR (j := 1) (v := .slice (some ⟨A2, 0, none⟩) ns.length ns.length) (rd_setR (j := 0) (v := .slice (some ⟨A1, 0, none⟩) ts.length ts.length) (Rd.of_own HA25.out) (rd_own_ne HA25.out HS2.out)) (rd_own_ne HA25.out HS2.out))
   generalize (w5.setCell ⟨w.heap.size, 0, none⟩ (.slice (some ⟨A1, 0, none⟩) ts.length ts.length)).setCell ⟨w.heap.size, 1, none⟩ (.slice (some ⟨A2, 0, none⟩) ns.length ns.length) = wz at *
   have q1 := RZ.out.cell (j := 0) rfl
   have q2 := RZ.out.cell (j := 1) rfl
   refine bodyPost_ret (v := .tuple #[.agg #[.slice (some ⟨A1, 0, none⟩) ts.length ts.length, .slice (some ⟨A2, 0, none⟩) ns.length ns.length], .int .i64 0]) (by simp [results, Tryz.results37, go_sem, q1, q2]) rfl ?_
   exact ⟨_, _, _, _, by rw [HP.out]; rfl, by rw [HP.out]; exact R1.out, by rw [HP.out]; exact R2.out, BZ.out, freshA_own HA15.out (Nat.le_of_lt HS1.out), freshA_own HA25.out (Nat.le_of_lt HS2.out), by rw [HP.out]; exact own_room HA15.out, by rw [HP.out]; exact own_room HA25.out⟩
  ·have HP : Hid (parseR s = (rlE (ts, ns), ([], []))) := Lib.hid (by rw [← HQ.out]; exact rparse_bad HM.out (by rw [HQ.out]; exact h0))
   have hn0 : (((rlE (ts, ns) : Nat) : Int) != 0) = true := by simp; omega
   clear h0
   go_wp2_with fail
   have RZ := Lib.hid ((HK5.out.same 0 (.slice none 0 0)).same 1 (.slice none 0 0))
   have BZ := Lib.hid ((HB5.out.setCell (p := ⟨w.heap.size, 0, none⟩) (Nat.le_refl _) (.slice none 0 0)).setCell (p := ⟨w.heap.size, 1, none⟩) (Nat.le_refl _) (.slice none 0 0))
   generalize (w5.setCell ⟨w.heap.size, 0, none⟩ (.slice none 0 0)).setCell ⟨w.heap.size, 1, none⟩ (.slice none 0 0) = wz at *
   have q1 := RZ.out.cell (j := 0) rfl
   have q2 := RZ.out.cell (j := 1) rfl
   refine bodyPost_ret (v := .tuple #[.agg #[.slice none 0 0, .slice none 0 0], .int .i64 ((rlE (ts, ns) : Nat) : Int)]) (by simp [results, Tryz.results37, go_sem, q1, q2]) rfl ?_
   exact ⟨none, 0, none, 0, by rw [HP.out]; rfl, Rd.cast_nil (by rw [HP.out]), Rd.cast_nil (by rw [HP.out]), BZ.out, freshA_none _, freshA_none _, by rw [HP.out]; exact Nat.le_refl _, by rw [HP.out]; exact Nat.le_refl _⟩
end Go.Proofs.YtoandhhkmkgmaaaGreatDoor
namespace Go.Proofs.YtoandhhkmkgmaaaGreatDoor
open Go.RowKit

structure RdPk (V R : Nat) (A1 : Option Addr) (c1 : Nat) (A2 : Option Addr) (c2 : Nat) (r : RuleT) (w1 wf : World) : Prop where
 blk : Blk wf R 78 [.slice A1 r.1.length c1, .slice A2 r.2.length c2]
 rl : RlIn A1 r.1.length c1 A2 r.2.length c2 r wf
 bel : Below w1.heap.size w1 wf
 n1 : ∀ g off, A1 = some ⟨g, off, none⟩ → 0 < (r.1.map sv).length → g ≠ V
 n2 : ∀ g off, A2 = some ⟨g, off, none⟩ → 0 < (r.2.map sv).length → g ≠ V
 f1 : FreshA w1 A1
 f2 : FreshA w1 A2
theorem RlIn.set {A1 A2 : Option Addr} {n1 c1 n2 c2 b : Nat} {r : RuleT} {w : World} (h : RlIn A1 n1 c1 A2 n2 c2 r w) (h1 : ∀ g off, A1 = some ⟨g, off, none⟩ → 0 < (r.1.map sv).length → g ≠ b) (h2 : ∀ g off, A2 = some ⟨g, off, none⟩ → 0 < (r.2.map sv).length → g ≠ b) (x y : Value) :
 RlIn A1 n1 c1 A2 n2 c2 r ((w.setCell ⟨b, 0, none⟩ x).setCell ⟨b, 1, none⟩ y) :=
 ⟨rd_setR (rd_setR h.t h1) h1, rd_setR (rd_setR h.n h2) h2, h.tl, h.nl, h.tb, h.nb, h.tc, h.nc, h.ts, h.ns⟩
section
variable {V : Nat} {A1 A2 : Option Addr} {c1 c2 : Nat} {ts ns : List (List UInt8)} {w1 u1 u2 : World}
def InF (ts ns : List (List UInt8)) : Prop := ∀ (W : World) (B1 B2 : Nat) (A1 A2 : Option Addr) (c1 c2 : Nat), W.ownsRow B1 9 1 (.slice A1 ts.length c1) ts.length (ts.map sv) → W.ownsRow B2 9 1 (.slice A2 ns.length c2) ns.length (ns.map sv) → RlIn A1 ts.length c1 A2 ns.length c2 (ts, ns) W
theorem rdPk_1 (HI : InF ts ns) (hV : V < w1.heap.size) (h1 : Below w1.drew.heap.size w1.drew u1) (ho1 : u1.ownsRow w1.drew.heap.size 9 1 (.slice A1 ts.length c1) ts.length (ts.map sv)) (h2 : Below u1.heap.size u1 u2) (ho2 : u2.ownsRow u1.heap.size 9 1 (.slice A2 ns.length c2) ns.length (ns.map sv)) (b2 : Below w1.heap.size w1 u2) :
 RdPk V u2.heap.size A1 c1 A2 c2 (ts, ns) w1 (u2.alloc (.cells #[.slice A1 ts.length c1, .slice A2 ns.length c2] 78)) := by
 have hs : w1.heap.size ≤ u1.heap.size := h1.size
 have hal := below_new (Below.refl u2.heap.size u2) (.cells #[.slice A1 ts.length c1, .slice A2 ns.length c2] 78)
 exact ⟨Blk.new u2 _ _, (HI _ _ _ _ _ _ _ (own_below ho1 h2) ho2).below hal, below_newL b2 hal, rd_own_ne ho1 hV, rd_own_ne ho2 (by omega), freshA_own ho1 (Nat.le_refl _), freshA_own ho2 hs⟩
theorem rdPk_2 (HI : InF ts ns) (hV : V < w1.heap.size) (h1 : Below w1.drew.heap.size w1.drew u1) (ho1 : u1.ownsRow w1.drew.heap.size 9 1 (.slice A1 ts.length c1) ts.length (ts.map sv)) (_b1 : Below w1.heap.size w1 u1)
 (h2 : Below (u1.alloc (.cells #[.slice none 0 0, .slice none 0 0] 78)).heap.size (u1.alloc (.cells #[.slice none 0 0, .slice none 0 0] 78)) u2)
 (ho2 : u2.ownsRow (u1.alloc (.cells #[.slice none 0 0, .slice none 0 0] 78)).heap.size 9 1 (.slice A2 ns.length c2) ns.length (ns.map sv)) (b2 : Below w1.heap.size w1 u2) (kb : Blk u2 u1.heap.size 78 [.slice none 0 0, .slice none 0 0]) :
 RdPk V u1.heap.size A1 c1 A2 c2 (ts, ns) w1 ((u2.setCell ⟨u1.heap.size, 0, none⟩ (.slice A1 ts.length c1)).setCell ⟨u1.heap.size, 1, none⟩ (.slice A2 ns.length c2)) := by
 have hs : w1.heap.size ≤ u1.heap.size := h1.size
 have hal := below_new (Below.refl u1.heap.size u1) (.cells #[.slice none 0 0, .slice none 0 0] 78)
 have hz : (u1.alloc (.cells #[.slice none 0 0, .slice none 0 0] 78)).heap.size = u1.heap.size + 1 := by simp
 have ho1' := own_below (own_below ho1 hal) h2
 refine ⟨(kb.same 0 _).same 1 _, (HI _ _ _ _ _ _ _ ho1' ho2).set (fun g off hA hp => ?_) (rd_own_ne ho2 (by omega)) _ _, (b2.setCell (p := ⟨u1.heap.size, 0, none⟩) hs _).setCell (p := ⟨u1.heap.size, 1, none⟩) hs _, rd_own_ne ho1 hV, rd_own_ne ho2 (by omega), freshA_own ho1 (Nat.le_refl _), freshA_own ho2 (by omega)⟩
 obtain ⟨b, o, hA', hlt, _⟩ := Rd.of_own ho1 hp
 rw [hA] at hA'
 injection hA' with hA'
 injection hA' with hA' _ _
 omega
theorem rdPk_3 (HI : InF ts ns) (hV : V < w1.heap.size)
 (h1 : Below (w1.alloc (.cells #[.slice none 0 0, .slice none 0 0] 78)).drew.heap.size (w1.alloc (.cells #[.slice none 0 0, .slice none 0 0] 78)).drew u1)
 (ho1 : u1.ownsRow (w1.alloc (.cells #[.slice none 0 0, .slice none 0 0] 78)).drew.heap.size 9 1 (.slice A1 ts.length c1) ts.length (ts.map sv))
 (h2 : Below u1.heap.size u1 u2) (ho2 : u2.ownsRow u1.heap.size 9 1 (.slice A2 ns.length c2) ns.length (ns.map sv)) (b2 : Below w1.heap.size w1 u2) (kb : Blk u2 w1.heap.size 78 [.slice none 0 0, .slice none 0 0]) :
 RdPk V w1.heap.size A1 c1 A2 c2 (ts, ns) w1 ((u2.setCell ⟨w1.heap.size, 0, none⟩ (.slice A1 ts.length c1)).setCell ⟨w1.heap.size, 1, none⟩ (.slice A2 ns.length c2)) := by
 have hz : (w1.alloc (.cells #[.slice none 0 0, .slice none 0 0] 78)).drew.heap.size = w1.heap.size + 1 := by show (w1.alloc _).heap.size = _; simp
 have hs := h1.size
 refine ⟨(kb.same 0 _).same 1 _, (HI _ _ _ _ _ _ _ (own_below ho1 h2) ho2).set (rd_own_ne ho1 (by omega)) (rd_own_ne ho2 (by omega)) _ _, (b2.setCell (p := ⟨w1.heap.size, 0, none⟩) (Nat.le_refl _) _).setCell (p := ⟨w1.heap.size, 1, none⟩) (Nat.le_refl _) _, rd_own_ne ho1 (by omega), rd_own_ne ho2 (by omega), freshA_own ho1 (by omega), freshA_own ho2 (by omega)⟩
end
set_option maxRecDepth 100000 in
set_option maxHeartbeats 4000000 in
theorem rRuleReadG_any (s : List UInt8) (w : World) (hl : s.length ≤ 2001) : Calls Tryz.prog 42 #[.string ⟨s.toArray⟩] w (PaPostG s w) := by
 have HL := Lib.hid hl
 have HSP := Lib.hid (fun W => rSplit_any s 58 (by omega) W)
 have HBK := Lib.hid (show Blk (w.alloc (.cells #[.slice none 0 0, .slice none 0 0] 78)) w.heap.size 78 [.slice none 0 0, .slice none 0 0] from Blk.new w _ _)
 have HB0 := Lib.hid (below_new (Below.refl w.heap.size w) (.cells #[.slice none 0 0, .slice none 0 0] 78))
 have hszs : (⟨s.toArray⟩ : ByteArray).size ≤ 2001 := hl
 have HEX := Lib.hid (fun i => ext_dropL (strIsL s) i)
 clear hl
 go_enter Tryz.func42, Tryz.ntmps42
 go_upto_region 1 with fail
 generalize w.alloc (.cells #[.slice none 0 0, .slice none 0 0] 78) = w0 at *
 have HSZ : Hid ((⟨s.toArray⟩ : ByteArray).size = s.length) := Lib.hid rfl
 generalize hbs : (⟨s.toArray⟩ : ByteArray) = bs at *
 have HBS := Lib.hid hbs
 clear hbs
 go_wp2_with fail
 refine (HSP.out _).mono ?_
 rintro e w1 ⟨g, kc, X, U, hxu, rfl, hown, hxl, hb1⟩
 have HB1 := Lib.hid (below_then HB0.out hb1)
 have HK1 := Lib.hid (HBK.out.below hb1 HBK.out.lt)
 clear hb1
 by_cases hm : (58 : UInt8) ∈ s
 ·obtain ⟨k, hk1, hk2⟩ : ∃ k, s[k]? = some 58 ∧ (58 : UInt8) ∉ s.take k := by
   refine ⟨s.idxOf 58, ?_, ?_⟩
   ·have h1 := List.idxOf_lt_length_of_mem hm
    rw [List.getElem?_eq_getElem h1, List.getElem_idxOf h1]
   ·intro hc
    obtain ⟨j, hj⟩ := List.mem_iff_getElem?.1 hc
    rw [List.getElem?_take] at hj
    split at hj
    ·rename_i hlt
     have := List.not_of_lt_findIdx (p := (· == (58 : UInt8))) (xs := s) (i := j) hlt
     obtain ⟨hj1, hj2⟩ := List.getElem?_eq_some_iff.1 hj
     simp at this
     exact this hj2
    ·cases hj
  obtain ⟨Y, hY⟩ := spF_some hk1 hk2
  rw [hxu] at hY
  simp only at hY
  subst hY
  have hkl := (List.getElem?_eq_some_iff.1 hk1).1
  obtain ⟨ts, hts⟩ : ∃ ts, wordsL (s.take k) = ts := ⟨_, rfl⟩
  obtain ⟨ns, hns⟩ : ∃ ns, wordsL (s.drop (k + 1)) = ns := ⟨_, rfl⟩
  have hxl2 := take_le500 HL.out k
  have hyl := drop_le500 HL.out (k + 1)
  have HQ : Hid (halves s = (ts, ns)) := Lib.hid (by rw [halves_at hk1 hk2, ← hts, ← hns])
  have HM : Hid ((58 : UInt8) ∈ s) := Lib.hid hm
  have CW1 := Lib.hid (fun W => rWordsOf_any (s.take k) (by omega) W)
  have CW2 := Lib.hid (fun W => rWordsOf_any (s.drop (k + 1)) (by omega) W)
  unfold WordsPost at CW1 CW2
  have HIN := Lib.hid (fun (W : World) (B1 B2 : Nat) (A1 A2 : Option Addr) (c1 c2 : Nat) h1 h2 => rlIn_words (w := W) (B1 := B1) (B2 := B2) (A1 := A1) (A2 := A2) (c1 := c1) (c2 := c2) (x := s.take k) (y := s.drop (k + 1)) h1 h2 hxl2 hyl)
  rw [hts] at CW1 HIN
  rw [hns] at CW2 HIN
  have hcell : w1.cell? ⟨g, 0, none⟩ = some (.string ⟨(s.take k).toArray⟩) := by
   have h := hown.cells (g := g) rfl 0 (.string ⟨(s.take k).toArray⟩) (by simp [svL])
   simpa [Addr.add] using h
  have hszk : (⟨(s.take k).toArray⟩ : ByteArray).size = k := by show (s.take k).length = k; rw [List.length_take]; omega
  obtain ⟨bn, hbn⟩ : ∃ bn, bs.extract (k + 1) bs.size = bn := ⟨_, rfl⟩
  rw [← HEX.out (k + 1), hbn] at CW2
  generalize hbk : (⟨(s.take k).toArray⟩ : ByteArray) = bk at *
  obtain ⟨m, hm2⟩ : ∃ m, (s.take k :: Y).length + 1 = m := ⟨_, rfl⟩
  have hm0 : (0 : Int) < (m : Int) := by simp at hm2; omega
  have hm0n : 0 < m := by omega
  have hne1 : ((m : Int) == 1) = false := by simp at hm2; simp; omega
  have hk0 : (0 : Int) ≤ (k : Int) + 1 := by omega
  have hkb : (k : Int) + 1 ≤ (bs.size : Int) := by rw [HSZ.out]; omega
  have hkw : IntKind.i64.wrap ((k : Int) + 1) = (k : Int) + 1 := by rw [IntKind.wrap_i64]; omega
  have HCL := Lib.hid hcell
  have HLT : Hid (w.heap.size < w1.heap.size) := Lib.hid HK1.out.lt
  clear hm hk1 hk2 hxu hown hxl hkl hts hns hxl2 hyl hbk
  rw [hm2]
  clear hm2
  go_wp2_with fail
  have HSL := Lib.hid (fun W (hW : Below w1.heap.size w1 W) => (⟨cell_kept HCL.out hW, hW⟩ : W.cell? ⟨g, 0, none⟩ = some (.string bk) ∧ Below w1.heap.size w1 W))
  have b0 := Below.refl w1.heap.size w1
  have bd : Below w1.heap.size w1 w1.drew := Below.drew b0
  have z0 : w1.heap.size ≤ w1.heap.size := Nat.le_refl _
  go_region_held3 (fun W => W.cell? ⟨g, 0, none⟩ = some (.string bk) ∧ Below w1.heap.size w1 W)
   ((refine HSL.out _ ?_; first | assumption | exact Below.drew (by assumption) | exact below_newL (by assumption) (below_new (Below.refl _ _) _) | exact Below.drew (below_newL (by assumption) (below_new (Below.refl _ _) _)) | exact Below.setCell (p := ⟨_, 1, none⟩) (Below.setCell (p := ⟨_, 0, none⟩) (by assumption) (by assumption) _) (by assumption) _ | exact below_newL (by assumption) (below_new (Below.refl _ _) _)))
   ((first
     | (go_at_call 93; (with_reducible refine (CW1.out _).mono ?_); rintro e u1 ⟨A1, c1, rfl, ho1, h1⟩; have b1 := below_then (by first | assumption | exact Below.drew (by assumption) | exact below_newL (by assumption) (below_new (Below.refl _ _) _) | exact Below.drew (below_newL (by assumption) (below_new (Below.refl _ _) _))) h1; have z1 := b1.size; (first | (have ka := (show Blk (w1.alloc (.cells #[.slice none 0 0, .slice none 0 0] 78)).drew w1.heap.size 78 [.slice none 0 0, .slice none 0 0] from Blk.new w1 #[.slice none 0 0, .slice none 0 0] 78).below h1 (by show _ < (w1.alloc _).heap.size; simp); have q0 := ka.cell (j := 0) rfl; have q1 := ka.cell (j := 1) rfl; have q2 := ka.free 0; have q3 := ka.free 1) | skip))
     | (go_at_call 93; (with_reducible refine (CW2.out _).mono ?_); rintro e u2 ⟨A2, c2, rfl, ho2, h2⟩; have b2 := below_then (by first | assumption | exact Below.drew (by assumption) | exact below_newL (by assumption) (below_new (Below.refl _ _) _) | exact Below.drew (below_newL (by assumption) (below_new (Below.refl _ _) _))) h2; (first | (have kb := (Blk.new u1 #[.slice none 0 0, .slice none 0 0] 78).below h2 (by simp); have q0 := kb.cell (j := 0) rfl; have q1 := kb.cell (j := 1) rfl; have q2 := kb.free 0; have q3 := kb.free 1) | (have kb := ka.below h2 ka.lt; have q0 := kb.cell (j := 0) rfl; have q1 := kb.cell (j := 1) rfl; have q2 := kb.free 0; have q3 := kb.free 1) | skip))))
  ·have HPK : Hid (RdPk w.heap.size u2.heap.size A1 c1 A2 c2 (ts, ns) w1 (u2.alloc (.cells #[.slice A1 ts.length c1, .slice A2 ns.length c2] 78))) := Lib.hid (rdPk_1 HIN.out HLT.out h1 ho1 h2 ho2 b2)
   clear ho1 h1 b1 z1 ho2 h2 b2 bd b0 z0 HSL CW1 CW2 hszk hcell hm0 hm0n hne1 hk0 hkb hkw
   generalize hW : u2.alloc (.cells #[.slice A1 ts.length c1, .slice A2 ns.length c2] 78) = wf at *
   generalize hR : u2.heap.size = BR at *
   clear hW hR
   have HCK := Lib.hid (rFault_any wf HPK.out.rl)
   unfold rlV at HCK
   have HK4 := Lib.hid (HK1.out.below HPK.out.bel HK1.out.lt)
   have HB4 := Lib.hid (below_then HB1.out HPK.out.bel)
   have hr0 := HPK.out.blk.cell (j := 0) rfl
   have hr1 := HPK.out.blk.cell (j := 1) rfl
   simp only [] at HCK hr0 hr1
   go_wp2_with fail
   refine HCK.out.mono ?_
   rintro e w5 ⟨rfl, hb5⟩
   have HB5 := Lib.hid (below_then HB4.out hb5)
   have HK5 := Lib.hid (HK4.out.below hb5 HK4.out.lt)
   have HKR5 := Lib.hid (HPK.out.blk.below hb5 HPK.out.blk.lt)
   have HRL5 := Lib.hid (HPK.out.rl.below hb5)
   clear hb5 hr0 hr1
   have hc0 := HK5.out.cell (j := 0) rfl
   have hc1 := HK5.out.cell (j := 1) rfl
   have hf0 := HK5.out.free 0
   have hf1 := HK5.out.free 1
   have hr0 := HKR5.out.cell (j := 0) rfl
   have hr1 := HKR5.out.cell (j := 1) rfl
   simp only [] at hr0 hr1
   by_cases h0 : rlE (ts, ns) = 0
   ·have HP : Hid (parseR s = (0, (ts, ns))) := Lib.hid (by rw [← HQ.out]; exact parse_good HM.out (by rw [HQ.out]; exact h0))
    rw [h0]
    clear h0
    go_wp2_with fail
    have RZ := Lib.hid ((HK5.out.same 0 (.slice A1 ts.length c1)).same 1 (.slice A2 ns.length c2))
    have BZ := Lib.hid ((HB5.out.setCell (p := ⟨w.heap.size, 0, none⟩) (Nat.le_refl _) (.slice A1 ts.length c1)).setCell (p := ⟨w.heap.size, 1, none⟩) (Nat.le_refl _) (.slice A2 ns.length c2))
    have R1 := Lib.hid (rd_setR (j := 1) (v := .slice A2 ns.length c2) (rd_setR (j := 0) (v := .slice A1 ts.length c1) HRL5.out.t HPK.out.n1) HPK.out.n1)
    have R2 := Lib.hid (rd_setR (j := 1) (v := .slice A2 ns.length c2) (rd_setR (j := 0) (v := .slice A1 ts.length c1) HRL5.out.n HPK.out.n2) HPK.out.n2)
    generalize (w5.setCell ⟨w.heap.size, 0, none⟩ (.slice A1 ts.length c1)).setCell ⟨w.heap.size, 1, none⟩ (.slice A2 ns.length c2) = wz at *
    have q1 := RZ.out.cell (j := 0) rfl
    have q2 := RZ.out.cell (j := 1) rfl
    refine bodyPost_ret (v := .tuple #[.agg #[.slice A1 ts.length c1, .slice A2 ns.length c2], .int .i64 0]) (by simp [results, Tryz.results42, go_sem, q1, q2]) rfl ?_
    exact ⟨_, _, _, _, by rw [HP.out]; rfl, by rw [HP.out]; exact R1.out, by rw [HP.out]; exact R2.out, BZ.out, fun g o f h => Nat.le_trans HB1.out.size (HPK.out.f1 g o f h), fun g o f h => Nat.le_trans HB1.out.size (HPK.out.f2 g o f h), by rw [HP.out]; exact HPK.out.rl.tc, by rw [HP.out]; exact HPK.out.rl.nc⟩
   ·have HP : Hid (parseR s = (rlE (ts, ns), ([], []))) := Lib.hid (by rw [← HQ.out]; exact rparse_bad HM.out (by rw [HQ.out]; exact h0))
    have hn0 : (((rlE (ts, ns) : Nat) : Int) != 0) = true := by simp; omega
    clear h0
    go_wp2_with fail
    have RZ := Lib.hid ((HK5.out.same 0 (.slice none 0 0)).same 1 (.slice none 0 0))
    have BZ := Lib.hid ((HB5.out.setCell (p := ⟨w.heap.size, 0, none⟩) (Nat.le_refl _) (.slice none 0 0)).setCell (p := ⟨w.heap.size, 1, none⟩) (Nat.le_refl _) (.slice none 0 0))
    generalize (w5.setCell ⟨w.heap.size, 0, none⟩ (.slice none 0 0)).setCell ⟨w.heap.size, 1, none⟩ (.slice none 0 0) = wz at *
    have q1 := RZ.out.cell (j := 0) rfl
    have q2 := RZ.out.cell (j := 1) rfl
    refine bodyPost_ret (v := .tuple #[.agg #[.slice none 0 0, .slice none 0 0], .int .i64 ((rlE (ts, ns) : Nat) : Int)]) (by simp [results, Tryz.results42, go_sem, q1, q2]) rfl ?_
    exact ⟨none, 0, none, 0, by rw [HP.out]; rfl, Rd.cast_nil (by rw [HP.out]), Rd.cast_nil (by rw [HP.out]), BZ.out, freshA_none _, freshA_none _, by rw [HP.out]; exact Nat.le_refl _, by rw [HP.out]; exact Nat.le_refl _⟩
  ·have HPK : Hid (RdPk w.heap.size u1.heap.size A1 c1 A2 c2 (ts, ns) w1 ((u2.setCell ⟨u1.heap.size, 0, none⟩ (.slice A1 ts.length c1)).setCell ⟨u1.heap.size, 1, none⟩ (.slice A2 ns.length c2))) := Lib.hid (rdPk_2 HIN.out HLT.out h1 ho1 b1 h2 ho2 b2 kb)
   clear ho1 h1 b1 z1 ho2 h2 b2 bd b0 z0 HSL CW1 CW2 hszk hcell hm0 hm0n hne1 hk0 hkb hkw kb q0 q1 q2 q3
   generalize hW : (u2.setCell ⟨u1.heap.size, 0, none⟩ (.slice A1 ts.length c1)).setCell ⟨u1.heap.size, 1, none⟩ (.slice A2 ns.length c2) = wf at *
   generalize hR : u1.heap.size = BR at *
   clear hW hR
   have HCK := Lib.hid (rFault_any wf HPK.out.rl)
   unfold rlV at HCK
   have HK4 := Lib.hid (HK1.out.below HPK.out.bel HK1.out.lt)
   have HB4 := Lib.hid (below_then HB1.out HPK.out.bel)
   have hr0 := HPK.out.blk.cell (j := 0) rfl
   have hr1 := HPK.out.blk.cell (j := 1) rfl
   simp only [] at HCK hr0 hr1
   go_wp2_with fail
   refine HCK.out.mono ?_
   rintro e w5 ⟨rfl, hb5⟩
   have HB5 := Lib.hid (below_then HB4.out hb5)
   have HK5 := Lib.hid (HK4.out.below hb5 HK4.out.lt)
   have HKR5 := Lib.hid (HPK.out.blk.below hb5 HPK.out.blk.lt)
   have HRL5 := Lib.hid (HPK.out.rl.below hb5)
   clear hb5 hr0 hr1
   have hc0 := HK5.out.cell (j := 0) rfl
   have hc1 := HK5.out.cell (j := 1) rfl
   have hf0 := HK5.out.free 0
   have hf1 := HK5.out.free 1
   have hr0 := HKR5.out.cell (j := 0) rfl
   have hr1 := HKR5.out.cell (j := 1) rfl
   simp only [] at hr0 hr1
   by_cases h0 : rlE (ts, ns) = 0
   ·have HP : Hid (parseR s = (0, (ts, ns))) := Lib.hid (by rw [← HQ.out]; exact parse_good HM.out (by rw [HQ.out]; exact h0))
    rw [h0]
    clear h0
    go_wp2_with fail
    have RZ := Lib.hid ((HK5.out.same 0 (.slice A1 ts.length c1)).same 1 (.slice A2 ns.length c2))
    have BZ := Lib.hid ((HB5.out.setCell (p := ⟨w.heap.size, 0, none⟩) (Nat.le_refl _) (.slice A1 ts.length c1)).setCell (p := ⟨w.heap.size, 1, none⟩) (Nat.le_refl _) (.slice A2 ns.length c2))
    have R1 := Lib.hid (rd_setR (j := 1) (v := .slice A2 ns.length c2) (rd_setR (j := 0) (v := .slice A1 ts.length c1) HRL5.out.t HPK.out.n1) HPK.out.n1)
    have R2 := Lib.hid (rd_setR (j := 1) (v := .slice A2 ns.length c2) (rd_setR (j := 0) (v := .slice A1 ts.length c1) HRL5.out.n HPK.out.n2) HPK.out.n2)
    generalize (w5.setCell ⟨w.heap.size, 0, none⟩ (.slice A1 ts.length c1)).setCell ⟨w.heap.size, 1, none⟩ (.slice A2 ns.length c2) = wz at *
    have q1 := RZ.out.cell (j := 0) rfl
    have q2 := RZ.out.cell (j := 1) rfl
    refine bodyPost_ret (v := .tuple #[.agg #[.slice A1 ts.length c1, .slice A2 ns.length c2], .int .i64 0]) (by simp [results, Tryz.results42, go_sem, q1, q2]) rfl ?_
    exact ⟨_, _, _, _, by rw [HP.out]; rfl, by rw [HP.out]; exact R1.out, by rw [HP.out]; exact R2.out, BZ.out, fun g o f h => Nat.le_trans HB1.out.size (HPK.out.f1 g o f h), fun g o f h => Nat.le_trans HB1.out.size (HPK.out.f2 g o f h), by rw [HP.out]; exact HPK.out.rl.tc, by rw [HP.out]; exact HPK.out.rl.nc⟩
   ·have HP : Hid (parseR s = (rlE (ts, ns), ([], []))) := Lib.hid (by rw [← HQ.out]; exact rparse_bad HM.out (by rw [HQ.out]; exact h0))
    have hn0 : (((rlE (ts, ns) : Nat) : Int) != 0) = true := by simp; omega
    clear h0
    go_wp2_with fail
    have RZ := Lib.hid ((HK5.out.same 0 (.slice none 0 0)).same 1 (.slice none 0 0))
    have BZ := Lib.hid ((HB5.out.setCell (p := ⟨w.heap.size, 0, none⟩) (Nat.le_refl _) (.slice none 0 0)).setCell (p := ⟨w.heap.size, 1, none⟩) (Nat.le_refl _) (.slice none 0 0))
    generalize (w5.setCell ⟨w.heap.size, 0, none⟩ (.slice none 0 0)).setCell ⟨w.heap.size, 1, none⟩ (.slice none 0 0) = wz at *
    have q1 := RZ.out.cell (j := 0) rfl
    have q2 := RZ.out.cell (j := 1) rfl
    refine bodyPost_ret (v := .tuple #[.agg #[.slice none 0 0, .slice none 0 0], .int .i64 ((rlE (ts, ns) : Nat) : Int)]) (by simp [results, Tryz.results42, go_sem, q1, q2]) rfl ?_
    exact ⟨none, 0, none, 0, by rw [HP.out]; rfl, Rd.cast_nil (by rw [HP.out]), Rd.cast_nil (by rw [HP.out]), BZ.out, freshA_none _, freshA_none _, by rw [HP.out]; exact Nat.le_refl _, by rw [HP.out]; exact Nat.le_refl _⟩
  ·have HPK : Hid (RdPk w.heap.size w1.heap.size A1 c1 A2 c2 (ts, ns) w1 ((u2.setCell ⟨w1.heap.size, 0, none⟩ (.slice A1 ts.length c1)).setCell ⟨w1.heap.size, 1, none⟩ (.slice A2 ns.length c2))) := Lib.hid (rdPk_3 HIN.out HLT.out h1 ho1 h2 ho2 b2 kb)
   clear ho1 h1 b1 z1 ho2 h2 b2 bd b0 z0 HSL CW1 CW2 hszk hcell hm0 hm0n hne1 hk0 hkb hkw ka kb q0 q1 q2 q3
   generalize hW : (u2.setCell ⟨w1.heap.size, 0, none⟩ (.slice A1 ts.length c1)).setCell ⟨w1.heap.size, 1, none⟩ (.slice A2 ns.length c2) = wf at *
   generalize hR : w1.heap.size = BR at *
   clear hW hR
   have HCK := Lib.hid (rFault_any wf HPK.out.rl)
   unfold rlV at HCK
   have HK4 := Lib.hid (HK1.out.below HPK.out.bel HK1.out.lt)
   have HB4 := Lib.hid (below_then HB1.out HPK.out.bel)
   have hr0 := HPK.out.blk.cell (j := 0) rfl
   have hr1 := HPK.out.blk.cell (j := 1) rfl
   simp only [] at HCK hr0 hr1
   go_wp2_with fail
   refine HCK.out.mono ?_
   rintro e w5 ⟨rfl, hb5⟩
   have HB5 := Lib.hid (below_then HB4.out hb5)
   have HK5 := Lib.hid (HK4.out.below hb5 HK4.out.lt)
   have HKR5 := Lib.hid (HPK.out.blk.below hb5 HPK.out.blk.lt)
   have HRL5 := Lib.hid (HPK.out.rl.below hb5)
   clear hb5 hr0 hr1
   have hc0 := HK5.out.cell (j := 0) rfl
   have hc1 := HK5.out.cell (j := 1) rfl
   have hf0 := HK5.out.free 0
   have hf1 := HK5.out.free 1
   have hr0 := HKR5.out.cell (j := 0) rfl
   have hr1 := HKR5.out.cell (j := 1) rfl
   simp only [] at hr0 hr1
   by_cases h0 : rlE (ts, ns) = 0
   ·have HP : Hid (parseR s = (0, (ts, ns))) := Lib.hid (by rw [← HQ.out]; exact parse_good HM.out (by rw [HQ.out]; exact h0))
    rw [h0]
    clear h0
    go_wp2_with fail
    have RZ := Lib.hid ((HK5.out.same 0 (.slice A1 ts.length c1)).same 1 (.slice A2 ns.length c2))
    have BZ := Lib.hid ((HB5.out.setCell (p := ⟨w.heap.size, 0, none⟩) (Nat.le_refl _) (.slice A1 ts.length c1)).setCell (p := ⟨w.heap.size, 1, none⟩) (Nat.le_refl _) (.slice A2 ns.length c2))
    have R1 := Lib.hid (rd_setR (j := 1) (v := .slice A2 ns.length c2) (rd_setR (j := 0) (v := .slice A1 ts.length c1) HRL5.out.t HPK.out.n1) HPK.out.n1)
    have R2 := Lib.hid (rd_setR (j := 1) (v := .slice A2 ns.length c2) (rd_setR (j := 0) (v := .slice A1 ts.length c1) HRL5.out.n HPK.out.n2) HPK.out.n2)
    generalize (w5.setCell ⟨w.heap.size, 0, none⟩ (.slice A1 ts.length c1)).setCell ⟨w.heap.size, 1, none⟩ (.slice A2 ns.length c2) = wz at *
    have q1 := RZ.out.cell (j := 0) rfl
    have q2 := RZ.out.cell (j := 1) rfl
    refine bodyPost_ret (v := .tuple #[.agg #[.slice A1 ts.length c1, .slice A2 ns.length c2], .int .i64 0]) (by simp [results, Tryz.results42, go_sem, q1, q2]) rfl ?_
    exact ⟨_, _, _, _, by rw [HP.out]; rfl, by rw [HP.out]; exact R1.out, by rw [HP.out]; exact R2.out, BZ.out, fun g o f h => Nat.le_trans HB1.out.size (HPK.out.f1 g o f h), fun g o f h => Nat.le_trans HB1.out.size (HPK.out.f2 g o f h), by rw [HP.out]; exact HPK.out.rl.tc, by rw [HP.out]; exact HPK.out.rl.nc⟩
   ·have HP : Hid (parseR s = (rlE (ts, ns), ([], []))) := Lib.hid (by rw [← HQ.out]; exact rparse_bad HM.out (by rw [HQ.out]; exact h0))
    have hn0 : (((rlE (ts, ns) : Nat) : Int) != 0) = true := by simp; omega
    clear h0
    go_wp2_with fail
    have RZ := Lib.hid ((HK5.out.same 0 (.slice none 0 0)).same 1 (.slice none 0 0))
    have BZ := Lib.hid ((HB5.out.setCell (p := ⟨w.heap.size, 0, none⟩) (Nat.le_refl _) (.slice none 0 0)).setCell (p := ⟨w.heap.size, 1, none⟩) (Nat.le_refl _) (.slice none 0 0))
    generalize (w5.setCell ⟨w.heap.size, 0, none⟩ (.slice none 0 0)).setCell ⟨w.heap.size, 1, none⟩ (.slice none 0 0) = wz at *
    have q1 := RZ.out.cell (j := 0) rfl
    have q2 := RZ.out.cell (j := 1) rfl
    refine bodyPost_ret (v := .tuple #[.agg #[.slice none 0 0, .slice none 0 0], .int .i64 ((rlE (ts, ns) : Nat) : Int)]) (by simp [results, Tryz.results42, go_sem, q1, q2]) rfl ?_
    exact ⟨none, 0, none, 0, by rw [HP.out]; rfl, Rd.cast_nil (by rw [HP.out]), Rd.cast_nil (by rw [HP.out]), BZ.out, freshA_none _, freshA_none _, by rw [HP.out]; exact Nat.le_refl _, by rw [HP.out]; exact Nat.le_refl _⟩
 ·have HP := Lib.hid (parse_no hm)
  have hX : X = [] := by rw [spF_none hm] at hxu; injection hxu with h _; exact h.symm
  subst hX
  have hc0 := HK1.out.cell (j := 0) rfl
  have hc1 := HK1.out.cell (j := 1) rfl
  have hf0 := HK1.out.free 0
  have hf1 := HK1.out.free 1
  clear hm hxu hown hxl
  simp only [List.length_nil, Nat.zero_add]
  go_wp2_with fail
  have RZ := Lib.hid ((HK1.out.same 0 (.slice none 0 0)).same 1 (.slice none 0 0))
  have BZ := Lib.hid ((HB1.out.setCell (p := ⟨w.heap.size, 0, none⟩) (Nat.le_refl _) (.slice none 0 0)).setCell (p := ⟨w.heap.size, 1, none⟩) (Nat.le_refl _) (.slice none 0 0))
  generalize (w1.setCell ⟨w.heap.size, 0, none⟩ (.slice none 0 0)).setCell ⟨w.heap.size, 1, none⟩ (.slice none 0 0) = wz at *
  have q1 := RZ.out.cell (j := 0) rfl
  have q2 := RZ.out.cell (j := 1) rfl
  refine bodyPost_ret (v := .tuple #[.agg #[.slice none 0 0, .slice none 0 0], .int .i64 3]) (by simp [results, Tryz.results42, go_sem, q1, q2]) rfl ?_
  exact ⟨none, 0, none, 0, by rw [HP.out]; rfl, Rd.cast_nil (by rw [HP.out]), Rd.cast_nil (by rw [HP.out]), BZ.out, freshA_none _, freshA_none _, by rw [HP.out]; exact Nat.le_refl _, by rw [HP.out]; exact Nat.le_refl _⟩
end Go.Proofs.YtoandhhkmkgmaaaGreatDoor
