/- Contracts: the reference's begins, between. Texts below 2^62 bytes. -/
import Derived.Test.YtoandhhkmkgmaaaGreatDoorDotPlain
import Derived.Test.YtoandhhkmkgmaaaGreatDoorLinesIt
import Derived.Test.YtoandhhkmkgmaaaGreatDoorGr1
import Derived.BigQuiet
import Derived.Deep.QuietTactic
import Derived.Test.YtoandhhkmkgmaaaGreatDoorTextPlain
import Derived.Test.YtoandhhkmkgmaaaGreatDoorName1
import Derived.Test.YtoandhhkmkgmaaaGreatDoorOwn
import Derived.Laws.OwnMore
import Derived.WalkKit
import Derived.Deep.RegionWith
import Derived.IntWalk
import Derived.Test.YtoandhhkmkgmaaaGreatDoorDot6
import Derived.Test.YtoandhhkmkgmaaaGreatDoorDot1
namespace Go.Proofs.YtoandhhkmkgmaaaGreatDoor
open Go.RowKit

theorem pfx_take {s h : List UInt8} : h <+: s ↔ h.length ≤ s.length ∧ s.take h.length = h := by
  constructor
  · intro hp
    exact ⟨hp.length_le, (List.prefix_iff_eq_take.1 hp).symm⟩
  · rintro ⟨_, h2⟩
    rw [← h2]
    exact List.take_prefix _ _
theorem sfx_drop {s t : List UInt8} : t <:+ s ↔ t.length ≤ s.length ∧ s.drop (s.length - t.length) = t := by
  constructor
  · intro hp
    exact ⟨hp.length_le, (List.suffix_iff_eq_drop.1 hp).symm⟩
  · rintro ⟨_, h2⟩
    rw [← h2]
    exact List.drop_suffix _ _
def beginsP (s h : List UInt8) : List UInt8 × Bool := if h <+: s then (s.drop h.length, true) else (s, false)
theorem rBegins_any (s h : List UInt8) (w : World) :
    Calls Tryz.prog 114 #[.string ⟨s.toArray⟩, .string ⟨h.toArray⟩] w fun e w' => e = .returned (.tuple #[.string ⟨(beginsP s h).1.toArray⟩, .bool (beginsP s h).2]) ∧ w = w' := by
  have z1 : (⟨s.toArray⟩ : ByteArray).size = s.length := by simp [ByteArray.size]
  have z2 : (⟨h.toArray⟩ : ByteArray).size = h.length := by simp [ByteArray.size]
  by_cases hl : s.length < h.length
  · have HP : Hid (beginsP s h = (s, false)) := Lib.hid (by unfold beginsP; rw [if_neg (fun hp => by have := (pfx_take.1 hp).1; omega)])
    have hlt : (((⟨s.toArray⟩ : ByteArray).size : Int) < ((⟨h.toArray⟩ : ByteArray).size : Int)) := by rw [z1, z2]; omega
    rw [HP.out]
    clear z1 z2 hl HP
    dsimp only
    generalize (⟨s.toArray⟩ : ByteArray) = bs at *
    generalize (⟨h.toArray⟩ : ByteArray) = bh at *
    go_enter Tryz.func114, Tryz.ntmps114
    go_wp2_with fail
    go_ret2
    exact ⟨rfl, rfl⟩
  · have hlt : ¬ (((⟨s.toArray⟩ : ByteArray).size : Int) < ((⟨h.toArray⟩ : ByteArray).size : Int)) := by rw [z1, z2]; omega
    have hle : (⟨h.toArray⟩ : ByteArray).size ≤ (⟨s.toArray⟩ : ByteArray).size := by rw [z1, z2]; omega
    have hle2 : (((⟨h.toArray⟩ : ByteArray).size : Int) ≤ ((⟨s.toArray⟩ : ByteArray).size : Int)) := by omega
    have hext : (⟨s.toArray⟩ : ByteArray).extract 0 (⟨h.toArray⟩ : ByteArray).size = ⟨(s.take h.length).toArray⟩ := by rw [z2]; exact linT s _
    have hext2 : (⟨s.toArray⟩ : ByteArray).extract (⟨h.toArray⟩ : ByteArray).size (⟨s.toArray⟩ : ByteArray).size = ⟨(s.drop h.length).toArray⟩ := by rw [z1, z2]; exact linD s _
    have heq := eq_sv2 (s.take h.length) h
    by_cases hp : s.take h.length = h
    · have HP : Hid (beginsP s h = (s.drop h.length, true)) := Lib.hid (by unfold beginsP; rw [if_pos (pfx_take.2 ⟨by omega, hp⟩)])
      rw [decide_eq_true hp] at heq
      rw [HP.out]
      clear z1 z2 hl HP hp
      dsimp only
      generalize (⟨(s.take h.length).toArray⟩ : ByteArray) = bt at *
      generalize (⟨(s.drop h.length).toArray⟩ : ByteArray) = bd at *
      generalize (⟨s.toArray⟩ : ByteArray) = bs at *
      generalize (⟨h.toArray⟩ : ByteArray) = bh at *
      go_enter Tryz.func114, Tryz.ntmps114
      go_wp2_with fail
      go_ret2
      exact ⟨rfl, rfl⟩
    · have HP : Hid (beginsP s h = (s, false)) := Lib.hid (by unfold beginsP; rw [if_neg (fun hc => hp (pfx_take.1 hc).2)])
      rw [decide_eq_false hp] at heq
      rw [HP.out]
      clear z1 z2 hl HP hp
      dsimp only
      generalize (⟨(s.take h.length).toArray⟩ : ByteArray) = bt at *
      generalize (⟨(s.drop h.length).toArray⟩ : ByteArray) = bd at *
      generalize (⟨s.toArray⟩ : ByteArray) = bs at *
      generalize (⟨h.toArray⟩ : ByteArray) = bh at *
      go_enter Tryz.func114, Tryz.ntmps114
      go_wp2_with fail
      go_ret2
      exact ⟨rfl, rfl⟩
/-- What between tells. -/
def betP (s h t : List UInt8) : List UInt8 × Bool := match betw s h t with
  | some b => (b, true)
  | none => ([], false)
theorem rBetween_any (s h t : List UInt8) (w : World) (hs : s.length ≤ 4611686018427387904) :
    Calls Tryz.prog 61 #[.string ⟨s.toArray⟩, .string ⟨h.toArray⟩, .string ⟨t.toArray⟩] w fun e w' => e = .returned (.tuple #[.string ⟨(betP s h t).1.toArray⟩, .bool (betP s h t).2]) ∧ w = w' := by
  have HB := Lib.hid (rBegins_any s h w)
  by_cases h1 : h <+: s
  · have hb : beginsP s h = (s.drop h.length, true) := by unfold beginsP; rw [if_pos h1]
    rw [hb] at HB
    clear hb
    obtain ⟨r, hr⟩ : ∃ r, r = s.drop h.length := ⟨_, rfl⟩
    have hrl : r.length ≤ 4611686018427387904 := by rw [hr, List.length_drop]; omega
    have z1 : (⟨r.toArray⟩ : ByteArray).size = r.length := by simp [ByteArray.size]
    have z2 : (⟨t.toArray⟩ : ByteArray).size = t.length := by simp [ByteArray.size]
    rw [← hr] at HB
    dsimp only at HB
    by_cases hl : r.length < t.length
    · have HP : Hid (betP s h t = ([], false)) := Lib.hid (by
        have : betw s h t = none := by unfold betw; rw [if_neg (fun hc => by have := (sfx_drop.1 hc.2).1; rw [← hr] at this; omega)]
        unfold betP; rw [this])
      have hlt : (((⟨r.toArray⟩ : ByteArray).size : Int) < ((⟨t.toArray⟩ : ByteArray).size : Int)) := by rw [z1, z2]; omega
      rw [HP.out]
      clear z1 z2 hs hl HP hrl h1 hr
      dsimp only
      generalize (⟨s.toArray⟩ : ByteArray) = bs at *
      generalize (⟨h.toArray⟩ : ByteArray) = bh at *
      generalize (⟨r.toArray⟩ : ByteArray) = br at *
      generalize (⟨t.toArray⟩ : ByteArray) = bt at *
      go_enter Tryz.func61, Tryz.ntmps61
      go_wp2_with fail
      refine HB.out.mono ?_
      rintro e w' ⟨rfl, rfl⟩
      go_wp2_with fail
      go_ret2
      exact ⟨rfl, rfl⟩
    · have hlt : ¬ (((⟨r.toArray⟩ : ByteArray).size : Int) < ((⟨t.toArray⟩ : ByteArray).size : Int)) := by rw [z1, z2]; omega
      have hle : (⟨t.toArray⟩ : ByteArray).size ≤ (⟨r.toArray⟩ : ByteArray).size := by rw [z1, z2]; omega
      have hw0 : IntKind.i64.wrap (((⟨r.toArray⟩ : ByteArray).size : Int) - ((⟨t.toArray⟩ : ByteArray).size : Int)) = (((⟨r.toArray⟩ : ByteArray).size - (⟨t.toArray⟩ : ByteArray).size : Nat) : Int) := by
        rw [IntKind.wrap_i64]
        rw [z1, z2] at *
        omega
      have hi0 : (((⟨r.toArray⟩ : ByteArray).size : Int) - ((⟨t.toArray⟩ : ByteArray).size : Int)) = (((⟨r.toArray⟩ : ByteArray).size - (⟨t.toArray⟩ : ByteArray).size : Nat) : Int) := by omega
      have hext : (⟨r.toArray⟩ : ByteArray).extract ((⟨r.toArray⟩ : ByteArray).size - (⟨t.toArray⟩ : ByteArray).size) (⟨r.toArray⟩ : ByteArray).size = ⟨(r.drop (r.length - t.length)).toArray⟩ := by rw [z1, z2]; exact linD r _
      have hext2 : (⟨r.toArray⟩ : ByteArray).extract 0 ((⟨r.toArray⟩ : ByteArray).size - (⟨t.toArray⟩ : ByteArray).size) = ⟨(r.take (r.length - t.length)).toArray⟩ := by rw [z1, z2]; exact linT r _
      have heq := eq_sv2 (r.drop (r.length - t.length)) t
      obtain ⟨k, hk⟩ : ∃ k, k = (⟨r.toArray⟩ : ByteArray).size - (⟨t.toArray⟩ : ByteArray).size := ⟨_, rfl⟩
      have hkr : k ≤ (⟨r.toArray⟩ : ByteArray).size := by omega
      have hkr2 : (k : Int) ≤ ((⟨r.toArray⟩ : ByteArray).size : Int) := by omega
      have hkb : k ≤ 4611686018427387904 := by omega
      rw [← hk] at hw0 hi0 hext hext2
      by_cases hp : r.drop (r.length - t.length) = t
      · have HP : Hid (betP s h t = (r.take (r.length - t.length), true)) := Lib.hid (by
          have : betw s h t = some (r.take (r.length - t.length)) := by
            unfold betw
            rw [if_pos ⟨h1, by rw [← hr]; exact sfx_drop.2 ⟨by omega, hp⟩⟩, ← hr]
            congr 2
            rw [hr, List.length_drop]
          unfold betP; rw [this])
        rw [decide_eq_true hp] at heq
        rw [HP.out]
        clear z1 z2 hs hl HP hp hk hrl h1 hr
        dsimp only
        generalize (⟨(r.drop (r.length - t.length)).toArray⟩ : ByteArray) = b1 at *
        generalize (⟨(r.take (r.length - t.length)).toArray⟩ : ByteArray) = b2 at *
        generalize (⟨s.toArray⟩ : ByteArray) = bs at *
        generalize (⟨h.toArray⟩ : ByteArray) = bh at *
        generalize (⟨r.toArray⟩ : ByteArray) = br at *
        generalize (⟨t.toArray⟩ : ByteArray) = bt at *
        go_enter Tryz.func61, Tryz.ntmps61
        go_wp2_with fail
        refine HB.out.mono ?_
        rintro e w' ⟨rfl, rfl⟩
        go_wp2_with fail
        go_ret2
        exact ⟨rfl, rfl⟩
      · have HP : Hid (betP s h t = ([], false)) := Lib.hid (by
          have : betw s h t = none := by unfold betw; rw [if_neg (fun hc => hp (by have := (sfx_drop.1 hc.2).2; rwa [← hr] at this))]
          unfold betP; rw [this])
        rw [decide_eq_false hp] at heq
        rw [HP.out]
        clear z1 z2 hs hl HP hp hk hrl h1 hr
        dsimp only
        generalize (⟨(r.drop (r.length - t.length)).toArray⟩ : ByteArray) = b1 at *
        generalize (⟨(r.take (r.length - t.length)).toArray⟩ : ByteArray) = b2 at *
        generalize (⟨s.toArray⟩ : ByteArray) = bs at *
        generalize (⟨h.toArray⟩ : ByteArray) = bh at *
        generalize (⟨r.toArray⟩ : ByteArray) = br at *
        generalize (⟨t.toArray⟩ : ByteArray) = bt at *
        go_enter Tryz.func61, Tryz.ntmps61
        go_wp2_with fail
        refine HB.out.mono ?_
        rintro e w' ⟨rfl, rfl⟩
        go_wp2_with fail
        go_ret2
        exact ⟨rfl, rfl⟩
  · have hb : beginsP s h = (s, false) := by unfold beginsP; rw [if_neg h1]
    have HP : Hid (betP s h t = ([], false)) := Lib.hid (by
      have : betw s h t = none := by unfold betw; rw [if_neg (fun hc => h1 hc.1)]
      unfold betP; rw [this])
    rw [hb] at HB
    rw [HP.out]
    clear hb hs h1 HP
    dsimp only at *
    generalize (⟨s.toArray⟩ : ByteArray) = bs at *
    generalize (⟨h.toArray⟩ : ByteArray) = bh at *
    generalize (⟨t.toArray⟩ : ByteArray) = bt at *
    go_enter Tryz.func61, Tryz.ntmps61
    go_wp2_with fail
    refine HB.out.mono ?_
    rintro e w' ⟨rfl, rfl⟩
    go_wp2_with fail
    go_ret2
    exact ⟨rfl, rfl⟩
theorem placeOf_first {l : List (List UInt8)} {s : List UInt8} {k : Nat} (hk : l[k]? = some s) (hf : ∀ (j : Nat) (x : List UInt8), j < k → l[j]? = some x → x ≠ s) : placeOf l s = (k : Int) := by
  have hm := List.mem_of_getElem? hk
  unfold placeOf
  rw [if_pos hm]
  have hlt := List.idxOf_lt_length_iff.2 hm
  have h3 : l[l.idxOf s] = s := List.getElem_idxOf hlt
  have hn : ¬ l.idxOf s < k := fun h => hf _ _ h (List.getElem?_eq_getElem hlt) h3
  rcases Nat.lt_or_ge k (l.idxOf s) with h | h
  · obtain ⟨h1, h2⟩ := List.getElem?_eq_some_iff.1 hk
    unfold List.idxOf at h
    have hh := List.not_of_lt_findIdx h
    rw [h2] at hh
    simp at hh
  · have : l.idxOf s = k := by omega
    rw [this]
set_option maxHeartbeats 1000000 in
theorem placeF_any {A : Option Addr} {n c : Nat} (l : List (List UInt8)) (s : List UInt8) (w : World) (hr : Rd w A (l.map sv)) (hn : l.length = n) (hb : n ≤ 9223372036854775807) :
    Calls Tryz.prog 43 #[.slice A n c, sv s] w fun e w' => e = .returned (.int .i64 (placeOf l s)) ∧ w = w' := by
  have HR := Lib.hid hr
  have HN := Lib.hid hn
  unfold sv
  generalize hbs : (⟨s.toArray⟩ : ByteArray) = bs
  have HBS := Lib.hid hbs
  clear hr hn hbs
  go_enter Tryz.func43, Tryz.ntmps43
  go_wp2_with fail
  go_loop [5, 6, 9] (fun _ _ i => ∃ k : Nat, k ≤ n ∧ i = .int .i64 (k : Int) ∧ Hid (∀ (j : Nat) (x : List UInt8), j < k → l[j]? = some x → x ≠ s)) (fun _ _ i => n - (intOf i).toNat)
  case atStart => exact ⟨0, by omega, rfl, Lib.hid (fun _ _ hj => absurd hj (Nat.not_lt_zero _))⟩
  case round =>
    obtain ⟨k, hk, rfl, hall⟩ := hrel
    by_cases hlt : k < n
    · obtain ⟨x, hx⟩ : ∃ x, l[k]? = some x := ⟨_, List.getElem?_eq_getElem (by rw [HN.out]; exact hlt)⟩
      obtain ⟨b, off, rfl, hc⟩ := HR.out.scell hx
      have HX := Lib.hid hx
      have HEQ := Lib.hid (eq_sv x s)
      rw [HBS.out] at HEQ
      generalize (⟨x.toArray⟩ : ByteArray) = bx at hc HEQ
      clear hx
      by_cases he : x = s
      · have h1 : (bx.toList == bs.toList) = true := by rw [HEQ.out, he]; simp
        have HS := Lib.hid he
        clear he
        go_wp2_with fail
        go_ret
        exact ⟨ret_int (placeOf_first (by rw [HX.out, HS.out]) hall.out).symm, rfl⟩
      · have h1 : (bx.toList == bs.toList) = false := by rw [HEQ.out]; simp [he]
        have HS := Lib.hid he
        clear he
        go_wp2_with fail
        go_round
        case rel => exact ⟨k + 1, by omega, by go_num, Lib.hid (fun j y hj hy => by
          rcases Nat.lt_or_ge j k with h | h
          · exact hall.out j y h hy
          · obtain rfl : j = k := by omega
            rw [HX.out] at hy
            injection hy with hy
            rw [← hy]; exact HS.out)⟩
        case measure => simp [intOf]; omega
    · go_wp2_with fail
      go_ret
      exact ⟨ret_int (by
        unfold placeOf
        rw [if_neg (fun hm => by
          obtain ⟨j, hj⟩ := List.mem_iff_getElem?.1 hm
          exact hall.out j s (by have := (List.getElem?_eq_some_iff.1 hj).1; have := HN.out; omega) hj rfl)]), rfl⟩
end Go.Proofs.YtoandhhkmkgmaaaGreatDoor
/- Contract: the reference's Split at one byte. Texts of at most 2^20 bytes. -/
namespace Go.Proofs.YtoandhhkmkgmaaaGreatDoor
open Go.RowKit

theorem bytesR_at (s : List UInt8) {b : ByteArray} (hb : b = ⟨s.toArray⟩) {k : Nat} (hk : k < b.size) : s[k]? = some b[k] := by
  subst hb
  have h1 : k < s.toArray.size := hk
  rw [show (⟨s.toArray⟩ : ByteArray)[k] = s.toArray[k] from rfl]
  simp at h1 ⊢
theorem splitC_snoc (c : UInt8) : ∀ (s : List UInt8) (x : UInt8), ∃ M p, splitC c s = M ++ [p] ∧ splitC c (s ++ [x]) = if x = c then M ++ [p, []] else M ++ [p ++ [x]]
  | [], x => by
    refine ⟨[], [], rfl, ?_⟩
    rw [List.nil_append, splitC_cons]
    rfl
  | y :: s, x => by
    obtain ⟨M, p, h1, h2⟩ := splitC_snoc c s x
    rw [List.cons_append, splitC_cons c y s, splitC_cons c y (s ++ [x])]
    by_cases hy : y = c
    · rw [if_pos hy, if_pos hy, h1, h2]
      refine ⟨[] :: M, p, rfl, ?_⟩
      by_cases hx : x = c <;> simp [hx]
    · rw [if_neg hy, if_neg hy, h1, h2]
      cases M with
      | nil =>
        refine ⟨[], y :: p, rfl, ?_⟩
        by_cases hx : x = c <;> simp [hx]
      | cons m M =>
        refine ⟨(y :: m) :: M, p, rfl, ?_⟩
        by_cases hx : x = c <;> simp [hx]
theorem splitC_last (c : UInt8) (s : List UInt8) : ∃ M p, splitC c s = M ++ [p] := ⟨(splitC c s).dropLast, (splitC c s).getLast (splitC_ne c s), (List.dropLast_concat_getLast _).symm⟩
theorem splitC_short (c : UInt8) : ∀ (s : List UInt8), (splitC c s).length ≤ s.length + 1
  | [] => by simp [splitC]
  | y :: s => by
    have ih := splitC_short c s
    rw [splitC_cons]
    by_cases hy : y = c
    · rw [if_pos hy]; simp; omega
    · rw [if_neg hy]
      cases hq : splitC c s with
      | nil => simp
      | cons p q => rw [hq] at ih; simp at ih ⊢; omega
theorem cat_one {b : ByteArray} (p : List UInt8) {k : Nat} (hk : k < b.size) : Value.string (⟨p.toArray⟩ ++ b.extract k (k + 1)) = sv (p ++ [b[k]]) := by
  unfold sv
  congr 1
  have e : b.extract k (k + 1) = ⟨[b[k]].toArray⟩ := by
    apply ByteArray.ext
    rw [ByteArray.data_extract]
    have hk2 : k < b.data.size := hk
    apply Array.ext
    · simp; omega
    · intro i h1 h2
      simp at h2
      subst h2
      simp
      rfl
  rw [e, ByteArray.mk_append_mk]
theorem elStrS : ElT Tryz.prog 22 9 (.string ⟨#[]⟩) 16 := ElT.mk' Tryz.underlying22 (by kernel_rfl) rfl
/-- The slice that Split hands back: its own, the parts as texts. -/
def SplitPost (c : UInt8) (s : List UInt8) (w : World) (e : Ending) (w' : World) : Prop := ∃ g cap, e = .returned (.slice (some ⟨g, 0, none⟩) (splitC c s).length cap) ∧ w'.ownsRow w.heap.size 9 1 (.slice (some ⟨g, 0, none⟩) (splitC c s).length cap) (splitC c s).length ((splitC c s).map sv) ∧ Below w.heap.size w w'
set_option maxRecDepth 100000 in
set_option maxHeartbeats 2000000 in
theorem rSplit_any (c : UInt8) (s : List UInt8) (w : World) (hl : s.length ≤ 1048576) :
    Calls Tryz.prog 62 #[.string ⟨s.toArray⟩, .int .u8 (c.toNat : Int)] w (SplitPost c s w) := by
  obtain ⟨b, hb⟩ : ∃ b : ByteArray, b = ⟨s.toArray⟩ := ⟨_, rfl⟩
  rw [← hb]
  have hsz : b.size = s.length := by rw [hb]; simp [ByteArray.size]
  have HB := Lib.hid hb
  have HSZ := Lib.hid hsz
  have hbs : b.size ≤ 1048576 := by omega
  clear hb hsz hl
  have HO0 : Hid ((w.alloc (.cells #[.string ⟨#[]⟩] 9)).ownsRow w.heap.size 9 1 (.slice (some ⟨w.heap.size, 0, none⟩) 1 1) 1 ((([] : List (List UInt8)) ++ [[]]).map sv)) := Lib.hid (World.ownsRow_lit w _ 1 (Nat.le_refl _) (by unfold maxLen; omega) rfl)
  have HB0 : Hid (Below w.heap.size w (w.alloc (.cells #[.string ⟨#[]⟩] 9))) := Lib.hid (below_new (Below.refl _ _) _)
  generalize hci : (c.toNat : Int) = ci at *
  have HCI := Lib.hid hci
  clear hci
  go_enter Tryz.func62, Tryz.ntmps62
  go_wp2_with fail
  go_loopw [5, 6, 10] (fun v _ i wr => ∃ (k : Nat) (M : List (List UInt8)) (p : List UInt8) (g cap : Nat), k ≤ b.size ∧ i = .int .i64 (k : Int) ∧ v = .slice (some ⟨g, 0, none⟩) (M.length + 1) cap ∧ M.length ≤ k ∧ p.length ≤ k ∧ Hid (splitC c (s.take k) = M ++ [p]) ∧ Hid (wr.ownsRow w.heap.size 9 1 (.slice (some ⟨g, 0, none⟩) (M.length + 1) cap) (M.length + 1) ((M ++ [p]).map sv)) ∧ Hid (Below w.heap.size w wr)) (fun _ _ i _ => b.size - (intOf i).toNat)
  case atStart => exact ⟨0, [], [], w.heap.size, 1, by omega, rfl, rfl, by simp, by simp, Lib.hid rfl, HO0, HB0⟩
  case round =>
    clear HO0 HB0
    obtain ⟨k, M, p, g, cap, hk, rfl, rfl, hM, hp, HSP, HO, HBW⟩ := hrel
    by_cases hlt : k < b.size
    · have HX := Lib.hid (bytesR_at s HB.out hlt)
      have HTK : Hid (s.take (k + 1) = s.take k ++ [b[k]]) := Lib.hid (by rw [List.take_add_one, HX.out]; rfl)
      have hki : (k : Int) < (b.size : Int) := by omega
      have hbw := HBW.out.size
      obtain ⟨M', p', q1, q2⟩ := splitC_snoc c (s.take k) b[k]
      obtain ⟨rfl, rfl⟩ : M = M' ∧ p = p' := by
        rw [HSP.out] at q1
        have := List.append_inj' q1 rfl
        exact ⟨this.1, by simpa using this.2⟩
      by_cases hx : b[k] = c
      · have HNX : Hid (splitC c (s.take (k + 1)) = (M ++ [p]) ++ [[]]) := Lib.hid (by rw [HTK.out, q2, if_pos hx]; simp)
        have hce : ((b[k].toNat : Nat) : Int) = ci := by rw [hx, HCI.out]
        clear q1 q2 hx HSP
        go_wp2_with (at_builtin; refine wpList_push elStrS wr _ _ w.heap.size (some ⟨g, 0, none⟩) (M.length + 1) cap _ (.string ⟨#[]⟩) HO.out rfl hbw (by omega) (by omega) rfl rfl rfl rfl ?_; intro A' c' w1 hown1 hb1)
        obtain ⟨g', hg'⟩ : ∃ g', A' = some ⟨g', 0, none⟩ := by
          rcases hown1.2 with ⟨h', _⟩ | ⟨g', cap', cur, h', _⟩
          · simp at h'
          · simp only [Value.slice.injEq] at h'
            exact ⟨g', h'.1⟩
        subst hg'
        exact ⟨⟨k + 1, M ++ [p], [], g', c', by omega, rfl, by simp, by simp; omega, by simp, HNX, Lib.hid (by simpa [sv] using hown1), Lib.hid (HBW.out.trans hb1)⟩, by simp [intOf]; omega⟩
      · have HNX : Hid (splitC c (s.take (k + 1)) = M ++ [p ++ [b[k]]]) := Lib.hid (by rw [HTK.out, q2, if_neg hx])
        have hce : ¬ ((b[k].toNat : Nat) : Int) = ci := by
          rw [← HCI.out]
          intro e
          apply hx
          apply UInt8.toNat_inj.1
          omega
        have hcell := HO.out.cellAt M.length (by omega)
        have hfz := HO.out.frozenAt M.length
        rw [List.map_append, List.getElem?_append_right (by simp)] at hcell
        simp only [List.length_map, Nat.sub_self, List.map_cons, List.map_nil, List.getElem?_cons_zero] at hcell
        have HST := Lib.hid (fun u => HO.out.stored M.length u)
        have HGB : Hid (w.heap.size ≤ g) := Lib.hid (HO.out.lt g rfl).1
        have hps : (⟨p.toArray⟩ : ByteArray).size ≤ 1048576 := by simp [ByteArray.size]; omega
        clear q1 q2 hx HSP
        have HM := Lib.hid hM
        unfold sv at hcell
        generalize hbp : (⟨p.toArray⟩ : ByteArray) = bp at *
        have HBP := Lib.hid hbp
        clear hbp
        go_wp2_with fail
        have HCAT : Hid (Value.string (bp ++ b.extract k (k + 1)) = sv (p ++ [b[k]])) := Lib.hid (by rw [← HBP.out]; exact cat_one p hlt)
        go_region
        rw [HCAT.out]
        obtain ⟨st1, st2⟩ := HST.out (sv (p ++ [b[k]]))
        have HO7 : Hid (((wr.setCell ⟨g, M.length, none⟩ (sv (p ++ [b[k]]))).drew).ownsRow w.heap.size 9 1 (.slice (some ⟨g, 0, none⟩) (M.length + 1) cap) (M.length + 1) ((M ++ [p ++ [b[k]]]).map sv)) := Lib.hid (by
          have e : ((M ++ [p]).map sv).set M.length (sv (p ++ [b[k]])) = (M ++ [p ++ [b[k]]]).map sv := by
            rw [List.map_append, List.map_append, List.set_append_right _ _ (by simp)]
            simp
          rw [← e]
          exact st1.drew)
        have HB7 : Hid (Below w.heap.size w (wr.setCell ⟨g, M.length, none⟩ (sv (p ++ [b[k]]))).drew) := Lib.hid ((HBW.out.setCell (p := ⟨g, M.length, none⟩) HGB.out _).drew)
        clear st1 st2
        go_wp2_with fail
        exact ⟨⟨k + 1, M, p ++ [b[k]], g, cap, by omega, rfl, rfl, by omega, by simp; omega, HNX, HO7, HB7⟩, by simp [intOf]; omega⟩
    · have hqn : ¬ (k : Int) < (b.size : Int) := by omega
      have HE : Hid (splitC c s = M ++ [p]) := Lib.hid (by rw [← HSP.out, List.take_of_length_le (by have := HSZ.out; omega)])
      go_wp2_with fail
      go_ret
      refine ⟨g, cap, ?_, ?_, HBW.out⟩
      · rw [HE.out, List.length_append]
        rfl
      · rw [HE.out, List.length_append]
        exact HO.out
end Go.Proofs.YtoandhhkmkgmaaaGreatDoor
/- Words for the contract of the reference's DrawnRead: what lies in memory between two lines. -/
namespace Go.Proofs.YtoandhhkmkgmaaaGreatDoor
open Go.RowKit

def RO (s : List UInt8) (ok : Bool) (N : List (List UInt8)) (E : List EdgeT) (p m : Nat) : Prop := match ok with
  | true => refRead s = some (N, E, p, m)
  | false => refRead s = none ∧ N = [] ∧ E = [] ∧ p = 0 ∧ m = 0
def RRPost (s : List UInt8) (w : World) (e : Ending) (w' : World) : Prop := ∃ A1 c1 A2 c2 N E p m ok, e = .returned (.tuple #[gv A1 N.length c1 A2 E.length c2 p m, .bool ok]) ∧ Rd w' A1 (N.map sv) ∧ Rd w' A2 (eV E) ∧ Below w.heap.size w w' ∧ RO s ok N E p m
structure RI (w : World) (b lo gP : Nat) (L : List (List UInt8)) (K : Nat) (G : GrT) (v1 v2 : Value) (W : World) : Prop where
  hb : w.heap.size = b
  below : Below w.heap.size w W
  res : Blk W b 43 zeroG
  ls : LS lo (b + 1) v1 v2 G W
  pl : b + 2 ≤ gP ∧ gP < lo
  rd : ∀ (j : Nat) (u : Value), (L.map sv)[j]? = some u → W.cell? ⟨gP, j, none⟩ = some u
  n64 : G.1.length ≤ 64
  el : G.2.1.length ≤ K
  bp : B64 G.2.2.1
  bm : B64 G.2.2.2
  nm : ∀ y ∈ G.1, y.length ≤ 1048576
section
variable {w W W' : World} {b lo gP : Nat} {L : List (List UInt8)} {K K' : Nat} {G G' : GrT} {v1 v2 v1' v2' : Value}
theorem RI.step (h : RI w b lo gP L K G v1 v2 W) (hb : ButLo lo (b + 1) W W') (hl : LS lo (b + 1) v1' v2' G' W') (h1 : G'.1.length ≤ 64) (h2 : G'.2.1.length ≤ K') (h3 : B64 G'.2.2.1) (h4 : B64 G'.2.2.2) (h5 : ∀ y ∈ G'.1, y.length ≤ 1048576) : RI w b lo gP L K' G' v1' v2' W' := by
  have hlo := h.ls.blo
  have hpl := h.pl
  have hbb := h.hb
  refine ⟨h.hb, ⟨hb.os.trans h.below.os, hb.tape.trans h.below.tape, hb.output.trans h.below.output, Nat.le_trans h.below.size hb.size, fun k hk => (hb.block k (by omega) (by omega)).trans (h.below.block k hk)⟩, (hb.block b (by omega) (by omega)).trans h.res, hl, h.pl, fun j u hu => ?_, h1, h2, h3, h4, h5⟩
  rw [World.cell?_of_block (hb.block gP hpl.2 (by omega))]
  exact h.rd j u hu
theorem RI.grow (h : RI w b lo gP L K G v1 v2 W) (hb : Below W.heap.size W W') : RI w b lo gP L K G v1 v2 W' :=
  h.step ((ButLo.refl _ _ _).below hb h.ls.top) (h.ls.below hb) h.n64 h.el h.bp h.bm h.nm
theorem RI.more (h : RI w b lo gP L K G v1 v2 W) (hk : K ≤ K') : RI w b lo gP L K' G v1 v2 W := ⟨h.hb, h.below, h.res, h.ls, h.pl, h.rd, h.n64, Nat.le_trans h.el hk, h.bp, h.bm, h.nm⟩
theorem RI.drew (h : RI w b lo gP L K G v1 v2 W) : RI w b lo gP L K G v1 v2 W.drew := h.grow (Below.drew (Below.refl _ _))
end
/-- The same, with the four ends in a block of their own. -/
structure RE (w : World) (b lo gP : Nat) (L : List (List UInt8)) (K : Nat) (Eb : Nat) (G : GrT) (v1 v2 : Value) (W : World) : Prop where
  ri : RI w b lo gP L K G v1 v2 W
  eb : Blk W Eb 9 [sv (endI 0), sv (endI 1), sv (endI 2), sv (endI 3)]
  hi : lo ≤ Eb
  n1 : ∀ g, v1.ownBlock = some g → g ≠ Eb
section
variable {w W W' : World} {b lo gP : Nat} {L : List (List UInt8)} {K Eb : Nat} {N : List (List UInt8)} {E : List EdgeT} {p m : Nat} {v1 v2 : Value}
theorem RE.alloc (h : RE w b lo gP L K Eb (N, E, p, m) v1 v2 W) (hb : Below W.heap.size W W') : RE w b lo gP L K Eb (N, E, p, m) v1 v2 W' :=
  ⟨h.ri.grow hb, h.eb.below hb h.eb.lt, h.hi, h.n1⟩
theorem RE.push (h : RE w b lo gP L K Eb (N, E, p, m) v1 v2 W) {g c : Nat} {x : List UInt8} (hx : x.length ≤ 1048576) (hn : N.length < 64) (hg : W.grownBy W' v1.ownBlock) (hown : W'.ownsRow lo 9 1 (.slice (some ⟨g, 0, none⟩) (N.length + 1) c) (N.length + 1) (N.map sv ++ [sv x])) (hat : v1.ownBlock = some g ∨ g = W.heap.size) :
    Blk W' (b + 1) 43 [v1, v2, .int .u64 (p : Int), .int .u64 (m : Int)] ∧ RE w b lo gP L K Eb (N ++ [x], E, p, m) (.slice (some ⟨g, 0, none⟩) (N.length + 1) c) v2 (W'.setCell ⟨b + 1, 0, none⟩ (.slice (some ⟨g, 0, none⟩) (N.length + 1) c)) := by
  have hlo := own_lo h.ri.ls.names
  have hbl := h.ri.ls.blo
  have hbox : Blk W' (b + 1) 43 [v1, v2, .int .u64 (p : Int), .int .u64 (m : Int)] := by
    unfold Blk
    rw [hg.block (b + 1) h.ri.ls.box.lt (fun e => by have := hlo (b + 1) e.symm; omega)]
    exact h.ri.ls.box
  refine ⟨hbox, ⟨h.ri.step (((ButLo.refl _ _ _).grown hg hlo h.ri.ls.top).set (j := 0) _) (h.ri.ls.pushN hg hown hat) (by simp; omega) h.ri.el h.ri.bp h.ri.bm ?_, ?_, h.hi, ?_⟩⟩
  · intro y hy
    rw [List.mem_append, List.mem_singleton] at hy
    rcases hy with hy | rfl
    · exact h.ri.nm y hy
    · exact hx
  · have h1 : Blk W' Eb 9 [sv (endI 0), sv (endI 1), sv (endI 2), sv (endI 3)] := by
      unfold Blk
      rw [hg.block Eb h.eb.lt (fun e => h.n1 Eb e.symm rfl)]
      exact h.eb
    exact blk_far h1 (by have := h.hi; omega) _
  · intro g' hg'
    have e1 : g' = g := by simpa [Value.ownBlock] using hg'.symm
    subst e1
    rcases hat with hat | hat
    · exact h.n1 _ hat
    · have := h.eb.lt
      omega
theorem RE.setM (h : RE w b lo gP L K Eb (N, E, p, m) v1 v2 W) {m' : Nat} (hm : B64 m') : RE w b lo gP L K Eb (N, E, p, m') v1 v2 (W.setCell ⟨b + 1, 3, none⟩ (.int .u64 (m' : Int))) := by
  have hbl := h.ri.ls.blo
  have hhi := h.hi
  exact ⟨h.ri.step ((ButLo.refl _ _ _).set _) (h.ri.ls.setM m') h.ri.n64 h.ri.el h.ri.bp hm h.ri.nm, blk_far h.eb (by omega) _, h.hi, h.n1⟩
theorem RE.setP (h : RE w b lo gP L K Eb (N, E, p, m) v1 v2 W) {p' : Nat} (hp : B64 p') : RE w b lo gP L K Eb (N, E, p', m) v1 v2 (W.setCell ⟨b + 1, 2, none⟩ (.int .u64 (p' : Int))) := by
  have hbl := h.ri.ls.blo
  have hhi := h.hi
  exact ⟨h.ri.step ((ButLo.refl _ _ _).set _) (h.ri.ls.setP p') h.ri.n64 h.ri.el hp h.ri.bm h.ri.nm, blk_far h.eb (by omega) _, h.hi, h.n1⟩
theorem RE.drw (h : RE w b lo gP L K Eb (N, E, p, m) v1 v2 W) : RE w b lo gP L K Eb (N, E, p, m) v1 v2 W.drew := h.alloc (Below.drew (Below.refl _ _))
theorem RI.pushE (h : RI w b lo gP L K (N, E, p, m) v1 v2 W) {g c : Nat} {e : EdgeT} (hg : W.grownBy W' v2.ownBlock) (hown : W'.ownsRow lo 102 2 (.slice (some ⟨g, 0, none⟩) (E.length + 1) c) (E.length + 1) (eV E ++ [.int .i64 e.1, .int .i64 e.2])) (hat : v2.ownBlock = some g ∨ g = W.heap.size) :
    RI w b lo gP L (K + 1) (N, E ++ [e], p, m) v1 (.slice (some ⟨g, 0, none⟩) (E.length + 1) c) (W'.setCell ⟨b + 1, 1, none⟩ (.slice (some ⟨g, 0, none⟩) (E.length + 1) c)) :=
  h.step (((ButLo.refl _ _ _).grown hg (own_lo h.ls.edges) h.ls.top).set (j := 1) _) (h.ls.pushE hg hown hat) h.n64 (by have := h.el; simp at this ⊢; omega) h.bp h.bm h.nm
end
theorem refLine_none {x : List UInt8} {G : GrT} {k : Nat} (hk : k ≤ 4) (hx : x ≠ []) (h : refEnds x k G = none) : refLine x G = none := by
  unfold refLine
  rw [if_neg hx]
  have := refEnds_none h (4 - k)
  rw [show k + (4 - k) = 4 by omega] at this
  rw [this]
  rfl
theorem refRead_none {s bd : List UInt8} (hb : betw s dHead dTail = some bd) {j : Nat} {x : List UInt8} {G : GrT} (hx : (splitC 10 bd)[j]? = some x) (hj : refAll ((splitC 10 bd).take j) ([], [], 0, 0) = some G) (h : refLine x G = none) : refRead s = none := by
  have h1 : refAll (splitC 10 bd) ([], [], 0, 0) = none := refAll_none (j := j + 1) (by rw [refAll_take hx, hj]; exact h)
  unfold refRead
  rw [hb, Option.bind_some, h1]
  rfl
end Go.Proofs.YtoandhhkmkgmaaaGreatDoor
