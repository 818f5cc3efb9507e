/- Contracts: dot.quoted, dot.has, strings.Join at the tags of a name, dot.draw at a good graph. -/
import Derived.Test.YtoandhhkmkgmaaaGreatDoorDotPlain
import Derived.Test.YtoandhhkmkgmaaaGreatDoorGraphT0
import Derived.Test.YtoandhhkmkgmaaaGreatDoorLnBld
import Derived.Test.YtoandhhkmkgmaaaGreatDoorShelfBld
import Derived.Test.YtoandhhkmkgmaaaGreatDoorShelfJoin
import Derived.Test.YtoandhhkmkgmaaaGreatDoorBlk
import Derived.Deep.RegionHeld3
import Derived.Deep.RegionLaw
import Derived.Deep.AppendLies
import Derived.BigQuiet
import Derived.Deep.QuietTactic
import Derived.Test.YtoandhhkmkgmaaaGreatDoorOwnK
namespace Go.Proofs.YtoandhhkmkgmaaaGreatDoor
open Go.RowKit

theorem elStrD : Tryz.prog.underlying 22 = some (.slice 9) ∧ ∃ i, Tryz.prog.info? 9 = some i ∧ i.zero = some (.string ⟨#[]⟩) ∧ i.size = 1 ∧ i.bytes = 16 ∧ (Value.string ⟨#[]⟩).cells.size = 1 := by
  refine ⟨Tryz.underlying22, ?_⟩
  have h := infoStr
  cases hi : Tryz.prog.info? 9 with
  | none => rw [hi] at h; cases h
  | some i =>
    rw [hi] at h
    simp at h
    exact ⟨i, rfl, h.1, h.2.1, h.2.2, by rfl⟩
def TxtPost (T : List UInt8) (w : World) (e : Ending) (w' : World) : Prop := e = .returned (.string ⟨T.toArray⟩) ∧ Below w.heap.size w w'
theorem dQuoted_any (s : List UInt8) (w : World) (hs : s.length ≤ 1099511627776) :
    Calls Tryz.prog 105 #[.string ⟨s.toArray⟩] w fun e w' => e = .returned (.string ⟨(34 :: (s ++ [34])).toArray⟩) ∧ w = w' := by
  have hz : (⟨s.toArray⟩ : ByteArray).size ≤ 1099511627776 := by simp only [ByteArray.size, List.size_toArray]; exact hs
  have HC : Hid ((⟨#[34]⟩ : ByteArray) ++ ⟨s.toArray⟩ ++ ⟨#[34]⟩ = ⟨(34 :: (s ++ [34])).toArray⟩) := Lib.hid (by
    have e0 : (⟨#[34]⟩ : ByteArray) = ⟨[(34 : UInt8)].toArray⟩ := rfl
    rw [e0, ByteArray.mk_append_mk, ByteArray.mk_append_mk]
    rfl)
  generalize (⟨s.toArray⟩ : ByteArray) = bs at *
  have n1 : (⟨#[34]⟩ : ByteArray).size + bs.size ≤ 9223372036854775807 := by have : (⟨#[34]⟩ : ByteArray).size = 1 := rfl; omega
  have n2 : (⟨#[34]⟩ : ByteArray).size + bs.size + (⟨#[34]⟩ : ByteArray).size ≤ 9223372036854775807 := by have : (⟨#[34]⟩ : ByteArray).size = 1 := rfl; omega
  clear hs
  go_enter Tryz.func105, Tryz.ntmps105
  go_wp2_with fail
  go_ret
  exact ⟨by rw [← HC.out]; rfl, rfl⟩
theorem bit_one (s i : Nat) (hs : B64 s) : (bits .and .u64 ((s : Int) / 2 ^ i) 1 == 1) = s.testBit i := by
  rw [bit_raw s i hs]
  cases s.testBit i <;> rfl
theorem dHas_yes (s i : Nat) (hs : B64 s) (hi : i < 64) (hb : s.testBit i = true) (wd : ByteArray) (w : World) :
    Calls Tryz.prog 104 #[.int .u64 (s : Int), .int .i64 (i : Int), .string wd] w fun e w' => e = .returned (.slice (some ⟨w.heap.size, 0, none⟩) 1 1) ∧ w' = w.alloc (.cells #[.string wd] 9) := by
  have hr := bit_one s i hs
  rw [hb] at hr
  clear hb hs
  go_enter Tryz.func104, Tryz.ntmps104
  go_wp2
  go_ret
  exact ⟨rfl, rfl⟩
theorem dHas_no (s i : Nat) (hs : B64 s) (hi : i < 64) (hb : s.testBit i = false) (wd : ByteArray) (w : World) :
    Calls Tryz.prog 104 #[.int .u64 (s : Int), .int .i64 (i : Int), .string wd] w fun e w' => e = .returned (.slice none 0 0) ∧ w' = w := by
  have hr := bit_one s i hs
  rw [hb] at hr
  clear hb hs
  go_enter Tryz.func104, Tryz.ntmps104
  go_wp2
  go_ret
  exact ⟨rfl, rfl⟩
def madeT : List UInt8 := [109, 97, 100, 101]
def phonyT : List UInt8 := [112, 104, 111, 110, 121]
def tagsL (md ph : Bool) : List (List UInt8) := (if md then [madeT] else []) ++ (if ph then [phonyT] else [])
theorem join_none (c : Nat) (sep : ByteArray) (w : World) : Calls Tryz.prog 95 #[.slice none 0 c, .string sep] w (TxtPost [] w) := by
  go_enter Tryz.func95, Tryz.ntmps95
  go_wp2
  go_ret
  exact ⟨rfl, Below.refl _ _⟩
theorem dJoin_tags {A : Option Addr} {c : Nat} (md ph : Bool) (w : World) (hr : Rd w A ((tagsL md ph).map sv)) (hc : (tagsL md ph).length ≤ c) (hA : (tagsL md ph).length = 0 → A = none) :
    Calls Tryz.prog 95 #[.slice A (tagsL md ph).length c, .string ⟨#[44]⟩] w (TxtPost (tagT md ph) w) := by
  by_cases h0 : (tagsL md ph).length = 0
  · obtain ⟨rfl, rfl⟩ : md = false ∧ ph = false := by cases md <;> cases ph <;> first | exact ⟨rfl, rfl⟩ | (simp [tagsL] at h0)
    rw [hA h0]
    exact join_none c _ w
  · obtain ⟨b, off, rfl, hlt, hcell⟩ := hr (by rw [List.length_map]; omega)
    have hj := Tryz.strings_Join b off c ((tagsL md ph).map fun s => ⟨s.toArray⟩) ⟨#[44]⟩ w (fun j x hx => by
      rw [List.getElem?_map] at hx
      cases ht : (tagsL md ph)[j]? with
      | none => rw [ht] at hx; cases hx
      | some s =>
        rw [ht] at hx
        injection hx with hx
        subst hx
        exact hcell j _ (by rw [List.getElem?_map, ht]; rfl)) hlt (by cases md <;> cases ph <;> decide) (by rw [List.length_map]; exact hc) (by cases md <;> cases ph <;> decide)
    rw [List.length_map] at hj
    refine hj.mono ?_
    rintro e w' ⟨rfl, hb⟩
    refine ⟨?_, hb⟩
    have : Lib.join ((((tagsL md ph).map fun s => (⟨s.toArray⟩ : ByteArray))).map (·.data.toList)) (⟨#[44]⟩ : ByteArray).data.toList = tagT md ph := by cases md <;> cases ph <;> decide
    rw [this]
end Go.Proofs.YtoandhhkmkgmaaaGreatDoor
/- Contract: dot.draw at a good graph. -/
namespace Go.Proofs.YtoandhhkmkgmaaaGreatDoor
open Go.RowKit

abbrev DBld (B : Nat) (O : List UInt8) (w : World) : Prop := Lib.IsBuilder 159 5 B B (Lib.byteCells O) w
theorem dBld_cat (O S : List UInt8) : Lib.byteCells O ++ Lib.strCells (⟨S.toArray⟩ : ByteArray) = Lib.byteCells (O ++ S) := by
  show Lib.byteCells O ++ Lib.byteCells _ = _
  unfold Lib.byteCells
  simp only [List.map_append]
theorem dBld_below {B : Nat} {O : List UInt8} {w w' : World} (h : DBld B O w) (hb : Below w.heap.size w w') : DBld B O w' := by
  have key : ∀ q, Lib.BuilderAt 159 5 B B q (Lib.byteCells O) w → Lib.BuilderAt 159 5 B B q (Lib.byteCells O) w' := fun q hq => by
    have hlt := hq.lt
    obtain ⟨hB, v, hv, hown, hne⟩ := hq
    exact ⟨hB, v, (hb.block B hlt).trans hv, own_belowK hown hb, hne⟩
  exact h.imp (key _) (key _)
theorem nlT_snoc (L : List (List UInt8)) (x : List UInt8) : nlT (L ++ [x]) = nlT L ++ (x ++ [10]) := by
  rw [nlT_app, nlT_cons]
  unfold nlT
  simp
def drawN (N : List (List UInt8)) (p m q : Nat) : List UInt8 := dHead ++ nlT ((nodesG N p m).take q)
def drawE (N : List (List UInt8)) (E : List EdgeT) (p m q : Nat) : List UInt8 := dHead ++ nlT (nodesG N p m) ++ nlT ((linksG N E).take q)
theorem nodesG_at {N : List (List UInt8)} {s : List UInt8} (p m : Nat) {q : Nat} (h : N[q]? = some s) : (nodesG N p m)[q]? = some (nodeL s (m.testBit q) (p.testBit q)) := by
  have hq := (List.getElem?_eq_some_iff.1 h).1
  unfold nodesG
  rw [List.getElem?_map, List.getElem?_range hq]
  show some (nodeL (nmAt N q) _ _) = _
  have e : nmAt N q = s := by
    unfold nmAt
    rw [List.getD_eq_getElem?_getD, h]
    rfl
  rw [e]
theorem drawN_succ {N : List (List UInt8)} {s : List UInt8} (p m : Nat) {q : Nat} (h : N[q]? = some s) : drawN N p m (q + 1) = drawN N p m q ++ (nodeL s (m.testBit q) (p.testBit q) ++ [10]) := by
  unfold drawN
  rw [List.take_add_one, nodesG_at p m h]
  show _ ++ nlT (_ ++ [_]) = _
  rw [nlT_snoc, List.append_assoc]
theorem drawN_end (N : List (List UInt8)) (E : List EdgeT) (p m : Nat) {n : Nat} (h : N.length ≤ n) : drawN N p m n = drawE N E p m 0 := by
  unfold drawN drawE
  rw [List.take_of_length_le (by unfold nodesG; simpa using h)]
  simp [nlT]
theorem drawE_succ (N : List (List UInt8)) {E : List EdgeT} {e : EdgeT} (p m : Nat) {q : Nat} (h : E[q]? = some e) : drawE N E p m (q + 1) = drawE N E p m q ++ (linkL (nmAt N e.1.toNat) (nmAt N e.2.toNat) ++ [10]) := by
  unfold drawE
  have : (linksG N E)[q]? = some (linkL (nmAt N e.1.toNat) (nmAt N e.2.toNat)) := by unfold linksG; rw [List.getElem?_map, h]; rfl
  rw [List.take_add_one, this]
  show _ ++ nlT (_ ++ [_]) = _
  rw [nlT_snoc, List.append_assoc (dHead ++ _)]
theorem drawE_end (N : List (List UInt8)) {E : List EdgeT} (p m : Nat) {n : Nat} (h : E.length ≤ n) : drawE N E p m n ++ dTail = drawT N E p m := by
  unfold drawE drawT linesG
  rw [List.take_of_length_le (by unfold linksG; simpa using h), nlT_app, List.append_assoc dHead]
theorem nodeL_len (s : List UInt8) (md ph : Bool) : (nodeL s md ph).length ≤ s.length + 18 := by
  unfold nodeL endT preT tagT
  cases md <;> cases ph <;> simp
theorem linkL_len (a b : List UInt8) : (linkL a b).length = a.length + b.length + 11 := by
  unfold linkL preT midT clsT
  simp
  omega
theorem good_len {s : List UInt8} (h : goodName s = true) : s.length ≤ 40 := by
  unfold goodName at h
  simp only [Bool.and_eq_true, decide_eq_true_eq] at h
  exact h.2.2
theorem nlT_len {K : Nat} : ∀ {L : List (List UInt8)}, (∀ x ∈ L, x.length ≤ K) → (nlT L).length ≤ (K + 1) * L.length
  | [], _ => by simp [nlT]
  | x :: L, h => by
    have h1 := nlT_len fun y hy => h y (List.mem_cons_of_mem _ hy)
    have h2 := h x (by simp)
    rw [nlT_cons, List.length_append, List.length_cons, List.length_cons, Nat.mul_add]
    omega
theorem drawN_len {N : List (List UInt8)} (p m q : Nat) (hg : N.all goodName = true) (hn : N.length ≤ 64) : (drawN N p m q).length ≤ 10000 := by
  unfold drawN
  have h1 := nlT_len (L := (nodesG N p m).take q) (K := 60) fun x hx => by
    have hx := List.mem_of_mem_take hx
    unfold nodesG at hx
    rw [List.mem_map] at hx
    obtain ⟨i, hi, rfl⟩ := hx
    have h1 := nodeL_len (nmAt N i) (m.testBit i) (p.testBit i)
    have h2 := good_len (nmAt_good hg (List.mem_range.1 hi))
    omega
  have h2 : ((nodesG N p m).take q).length ≤ 64 := by rw [List.length_take]; unfold nodesG; simp; omega
  rw [List.length_append]
  have h3 : dHead.length = 10 := rfl
  have h4 : (60 + 1) * ((nodesG N p m).take q).length ≤ 61 * 64 := Nat.mul_le_mul_left _ h2
  omega
theorem drawE_len {N : List (List UInt8)} {E : List EdgeT} (p m q : Nat) (hg : N.all goodName = true) (hn : N.length ≤ 64) (ho : E.any (edgeOut N.length) = false) (hE : E.length ≤ 4096) : (drawE N E p m q).length ≤ 1000000 := by
  unfold drawE
  have h0 := drawN_len p m N.length hg hn
  unfold drawN at h0
  rw [List.take_of_length_le (by unfold nodesG; simp)] at h0
  have h1 := nlT_len (L := (linksG N E).take q) (K := 100) fun x hx => by
    have hx := List.mem_of_mem_take hx
    unfold linksG at hx
    rw [List.mem_map] at hx
    obtain ⟨e, he, rfl⟩ := hx
    obtain ⟨a1, a2, _⟩ := edge_at ho he
    have h1 := linkL_len (nmAt N e.1.toNat) (nmAt N e.2.toNat)
    have h2 := good_len (nmAt_good hg a1)
    have h3 := good_len (nmAt_good hg a2)
    omega
  have h2 : ((linksG N E).take q).length ≤ 4096 := by rw [List.length_take]; unfold linksG; simp; omega
  rw [List.length_append]
  have h4 : (100 + 1) * ((linksG N E).take q).length ≤ 101 * 4096 := Nat.mul_le_mul_left _ h2
  omega
theorem nmAt_at {N : List (List UInt8)} {i : Nat} (hi : i < N.length) : N[i]? = some (nmAt N i) := by unfold nmAt; rw [List.getD_eq_getElem?_getD, List.getElem?_eq_getElem hi]; rfl
theorem cat_node (s : List UInt8) (md ph : Bool) : (⟨#[32, 32]⟩ : ByteArray) ++ ⟨(34 :: (s ++ [34])).toArray⟩ ++ ⟨#[32, 91]⟩ ++ ⟨(tagT md ph).toArray⟩ ++ ⟨#[93, 59, 10]⟩ = ⟨(nodeL s md ph ++ [10]).toArray⟩ := by
  have e1 : (⟨#[32, 32]⟩ : ByteArray) = ⟨[(32 : UInt8), 32].toArray⟩ := rfl
  have e2 : (⟨#[32, 91]⟩ : ByteArray) = ⟨[(32 : UInt8), 91].toArray⟩ := rfl
  have e3 : (⟨#[93, 59, 10]⟩ : ByteArray) = ⟨[(93 : UInt8), 59, 10].toArray⟩ := rfl
  rw [e1, e2, e3, ByteArray.mk_append_mk, ByteArray.mk_append_mk, ByteArray.mk_append_mk, ByteArray.mk_append_mk]
  unfold nodeL preT endT
  simp
theorem cat_link (a b : List UInt8) : (⟨#[32, 32]⟩ : ByteArray) ++ ⟨(34 :: (a ++ [34])).toArray⟩ ++ ⟨#[32, 45, 62, 32]⟩ ++ ⟨(34 :: (b ++ [34])).toArray⟩ ++ ⟨#[59, 10]⟩ = ⟨(linkL a b ++ [10]).toArray⟩ := by
  have e1 : (⟨#[32, 32]⟩ : ByteArray) = ⟨[(32 : UInt8), 32].toArray⟩ := rfl
  have e2 : (⟨#[32, 45, 62, 32]⟩ : ByteArray) = ⟨[(32 : UInt8), 45, 62, 32].toArray⟩ := rfl
  have e3 : (⟨#[59, 10]⟩ : ByteArray) = ⟨[(59 : UInt8), 10].toArray⟩ := rfl
  rw [e1, e2, e3, ByteArray.mk_append_mk, ByteArray.mk_append_mk, ByteArray.mk_append_mk, ByteArray.mk_append_mk]
  unfold linkL preT midT clsT
  simp
theorem grBox_alloc {B : Nat} {v1 v2 v3 v4 : Value} {w : World} (h : GrBox B v1 v2 v3 v4 w) (o : Obj) : GrBox B v1 v2 v3 v4 (w.alloc o) := h.below (below_new (Below.refl _ _) o)
theorem own_cap {w : World} {B : Nat} {e : TypeId} {z : Nat} {A : Option Addr} {n c : Nat} {xs : List Value} (h : w.ownsRow B e z (.slice A n c) n xs) : n ≤ c := by
  rcases h.2 with ⟨hv, h0⟩ | ⟨g, cap, cur, hv, _, _, hc, _⟩
  · injection hv with _ _ hc
    omega
  · injection hv with _ _ hcc
    omega
theorem run_app_nil (W : World) : (Builtin.append_ #[22, 22] 22 #[.slice none 0 0, .slice none 0 0]).run Tryz.prog W = .ok (.slice none 0 0) W := by
  obtain ⟨ht, i, hi, _⟩ := elStrD
  simp [Builtin.append_, run_underlying ht, sizeOf, typeInfo, hi, Builtin.lenOf, Builtin.firstCells]
theorem run_app_one (ad : Addr) (W : World) : (Builtin.append_ #[22, 22] 22 #[.slice (some ad) 1 1, .slice none 0 0]).run Tryz.prog W = .ok (.slice (some ad) 1 1) W := by
  obtain ⟨ht, i, hi, _⟩ := elStrD
  simp [Builtin.append_, run_underlying ht, sizeOf, typeInfo, hi, Builtin.lenOf, Builtin.firstCells, storeCells]
theorem bld_drewD {T e : TypeId} {B b : Nat} {bs : List Value} {w : World} (h : Lib.IsBuilder T e B b bs w) : Lib.IsBuilder T e B b bs w.drew := h.imp (fun h => ⟨h.1, h.2⟩) (fun h => ⟨h.1, h.2⟩)
theorem dBld_lt {B : Nat} {O : List UInt8} {w : World} (h : DBld B O w) : B < w.heap.size := h.elim (fun h => h.lt) (fun h => h.lt)
theorem okcE {B : Nat} {w w' : World} (h : Lib.OthersKept 5 (some B) w w') {b : Nat} {vs : List Value} (hb : Blk w b 102 vs) (hne : b ≠ B) : Blk w' b 102 vs :=
  h b _ hb (fun e => hne (by injection e)) (fun c fz e => absurd (by injection e) (show (102 : TypeId) ≠ 5 by decide))
section
variable {A1 A2 : Option Addr} {n k c1 c2 : Nat} {N : List (List UInt8)} {E : List EdgeT} {p m : Nat} (w : World) (hG : GrIn A1 n A2 k N E p m w)
include hG
set_option maxRecDepth 100000 in
set_option maxHeartbeats 4000000 in
theorem dDraw_any (hok : GOk N E p m) : Calls Tryz.prog 51 #[gv A1 n c1 A2 k c2 p m] w (TxtPost (drawT N E p m) w) := by
  have hn64 : n ≤ 64 := by have := hok.n64; rw [hG.nlen] at this; exact this
  have hk : k ≤ 4096 := by have := edges_le hok.n64 hok.out hok.ris; rw [hG.elen] at this; exact this
  have HG := Lib.hid hG
  have HO := Lib.hid hok
  clear hG hok
  unfold gv
  go_enter Tryz.func51, Tryz.ntmps51
  go_upto_region 1 with fail
  obtain ⟨b1, b2, b3, b4, b5⟩ := box_four w (.slice A1 n c1) (.slice A2 k c2) (.int .u64 (p : Int)) (.int .u64 (m : Int)) 43
  obtain ⟨w1, hw1⟩ : ∃ w1, w1 = w.alloc (.cells #[.slice A1 n c1, .slice A2 k c2, .int .u64 (p : Int), .int .u64 (m : Int)] 43) := ⟨_, rfl⟩
  rw [← hw1] at b1 b2 b3 b4 b5 ⊢
  have X1 : Hid (GrBox w.heap.size (.slice A1 n c1) (.slice A2 k c2) (.int .u64 (p : Int)) (.int .u64 (m : Int)) w1) := Lib.hid ⟨b1, b2, b3, b4⟩
  have HB1 := Lib.hid b5
  have HBI : Hid (DBld w1.heap.size [] (w1.alloc (.cells #[.pointer none, .slice none 0 0] 159))) := Lib.hid (Lib.fresh_isBuilder _ _ _)
  have HBB : Hid (Below w1.heap.size w1 (w1.alloc (.cells #[.pointer none, .slice none 0 0] 159))) := Lib.hid (below_new (Below.refl _ _) _)
  have HHD : Hid (drawN N p m 0 = [] ++ [100, 105, 103, 114, 97, 112, 104, 32, 123, 10]) := Lib.hid (by unfold drawN dHead; simp [nlT])
  clear b1 b2 b3 b4 b5 hw1
  go_wp2_with fail
  refine (bld_str w1.heap.size w1.heap.size (Lib.byteCells []) ⟨[100, 105, 103, 114, 97, 112, 104, 32, 123, 10].toArray⟩ _ HBI.out (by decide) HBB.out.size).mono ?_
  rintro e w2 ⟨rfl, h7, hb7, _⟩
  have HI2 : Hid (DBld w1.heap.size (drawN N p m 0) w2) := Lib.hid (by have h := h7; rw [dBld_cat] at h; rw [HHD.out]; exact .inr h)
  have HB2 := Lib.hid (HBB.out.trans hb7)
  have X2 := Lib.hid (X1.out.below HB2.out)
  obtain ⟨x1, x2, x3, x4⟩ := X2.out
  clear h7 hb7 HBI HBB HHD
  obtain ⟨wz, hwz⟩ : ∃ wz : World, wz = w1 := ⟨_, rfl⟩
  subst hwz
  go_wp2_with fail
  go_loopw [4, 5, 6, 13] (fun _ _ _ i wr => ∃ q : Nat, q ≤ n ∧ i = .int .i64 (q : Int) ∧ Hid (DBld wz.heap.size (drawN N p m q) wr) ∧ Hid (Below wz.heap.size wz wr)) (fun _ _ _ i _ => n - (intOf i).toNat)
  case atStart => exact ⟨0, by omega, rfl, HI2, HB2⟩
  case round =>
    clear HI2 HB2 X2 x1 x2 x3 x4
    obtain ⟨q, hq, rfl, HBI, HBW⟩ := hrel
    have XW := Lib.hid (X1.out.below HBW.out)
    by_cases hlt : q < n
    · obtain ⟨s, hs⟩ : ∃ s, N[q]? = some s := ⟨_, List.getElem?_eq_getElem (by rw [HG.out.nlen]; exact hlt)⟩
      obtain ⟨b, off, rfl, hc⟩ := ((HG.out.below HB1.out).below HBW.out).names.scell hs
      have HSE := Lib.hid (drawN_succ p m hs)
      have HSL : Hid (s.length ≤ 40) := Lib.hid (good_len (List.all_eq_true.1 HO.out.good _ (List.mem_of_getElem? hs)))
      have hq2 : (q : Int) < (n : Int) := by omega
      have hq64 : q < 64 := by omega
      have HLQ : Hid ((drawN N p m q).length ≤ 10000) := Lib.hid (drawN_len p m q HO.out.good HO.out.n64)
      have HQ := Lib.hid (fun W => dQuoted_any s W (by have := HSL.out; omega))
      have HCAT := Lib.hid (cat_node s (m.testBit q) (p.testBit q))
      generalize (⟨s.toArray⟩ : ByteArray) = bs at hc HQ
      obtain ⟨x1, x2, x3, x4⟩ := XW.out
      clear hs
      go_wp2_with fail
      go_cut [6, 37, 38, 39, 40, 41, 42, 43, 44, 45, 46, 47, 48, 49, 50, 51, 52, 53, 54, 55, 56, 57, 58, 59, 60, 61, 62, 63, 64, 65] from 18 (fun s6 s37 s38 s39 s40 s41 s42 s43 s44 s45 s46 s47 s48 s49 s50 s51 s52 s53 s54 s55 s56 s57 s58 s59 s60 s61 s62 s63 s64 s65 wx => (s37 = undef ∧ s38 = undef ∧ s39 = undef ∧ s40 = undef ∧ s41 = undef ∧ s42 = undef ∧ s43 = undef ∧ s44 = undef ∧ s45 = undef ∧ s46 = undef ∧ s47 = undef ∧ s48 = undef ∧ s49 = undef ∧ s50 = undef ∧ s51 = undef ∧ s52 = undef ∧ s53 = undef ∧ s54 = undef ∧ s55 = undef ∧ s56 = undef ∧ s57 = undef ∧ s58 = undef ∧ s59 = undef ∧ s60 = undef ∧ s61 = undef ∧ s62 = undef ∧ s63 = undef ∧ s64 = undef ∧ s65 = undef) ∧ ∃ A c, s6 = .slice A (tagsL (m.testBit q) (p.testBit q)).length c ∧ Hid ((tagsL (m.testBit q) (p.testBit q)).length ≤ c) ∧ Hid (Rd wx A ((tagsL (m.testBit q) (p.testBit q)).map sv)) ∧ Hid ((tagsL (m.testBit q) (p.testBit q)).length = 0 → A = none) ∧ Hid (Below wr.heap.size wr wx))
      case first =>
        have HGM := HG.out.m64
        have HGP := HG.out.p64
        have HYA := Lib.hid (fun o => grBox_alloc XW.out o)
        have HYB := Lib.hid (fun o o' => grBox_alloc (grBox_alloc XW.out o) o')
        obtain ⟨ht, i0, hi, hz, hs1, hby, hzs⟩ := elStrD
        clear HBI HBW hc HQ HCAT HSE HSL HLQ X1 HB1 HG HO XW
        cases hm : m.testBit q with
        | false =>
          have CM := Lib.hid (fun W => dHas_no m q HGM hq64 hm ⟨#[109, 97, 100, 101]⟩ W)
          cases hp : p.testBit q with
          | false =>
            have CP := Lib.hid (fun W => dHas_no p q HGP hq64 hp ⟨#[112, 104, 111, 110, 121]⟩ W)
            have HA := run_app_nil
            have HTG : Hid (tagsL (m.testBit q) (p.testBit q) = []) := Lib.hid (by rw [hm, hp]; rfl)
            clear hm hp HGM HGP ht hi hz hs1 hby hzs
            go_region_law ((first
              | ((rw [if_pos (by rfl)]); go_simp; go_at_call 104; (with_reducible refine (CM.out _).mono ?_); rintro e w3 ⟨rfl, rfl⟩)
              | ((rw [if_pos (by rfl)]); go_simp; go_at_call 104; (with_reducible refine (CP.out _).mono ?_); rintro e w4 ⟨rfl, rfl⟩)))
            all_goals
              go_wp2_with fail
              go_meet
              rw [HTG.out]
              exact ⟨⟨rfl, rfl, rfl, rfl, rfl, rfl, rfl, rfl, rfl, rfl, rfl, rfl, rfl, rfl, rfl, rfl, rfl, rfl, rfl, rfl, rfl, rfl, rfl, rfl, rfl, rfl, rfl, rfl, rfl⟩, none, 0, rfl, Lib.hid (Nat.le_refl _), Lib.hid (Rd.nil_ _ _), Lib.hid (fun _ => rfl), Lib.hid (Below.drew (Below.refl _ _))⟩
          | true =>
            have CP := Lib.hid (fun W => dHas_yes p q HGP hq64 hp ⟨#[112, 104, 111, 110, 121]⟩ W)
            obtain ⟨y1, y2, y3, y4⟩ := HYA.out (.cells #[.string ⟨#[112, 104, 111, 110, 121]⟩] 9)
            have HOWN : Hid ((wr.alloc (.cells #[.string ⟨#[112, 104, 111, 110, 121]⟩] 9)).ownsRow wr.heap.size 9 1 (.slice none 0 0) 0 []) := Lib.hid (World.ownsRow_nil _ _ _ _)
            have HNEW := Lib.hid (World.news_of_block (heap_alloc_new wr (.cells #[.string ⟨#[112, 104, 111, 110, 121]⟩] 9)))
            have HTG : Hid (tagsL (m.testBit q) (p.testBit q) = [phonyT]) := Lib.hid (by rw [hm, hp]; rfl)
            clear hm hp HGM HGP
            go_region_law ((first
              | ((rw [if_pos (by rfl)]); go_simp; go_at_call 104; (with_reducible refine (CM.out _).mono ?_); rintro e w3 ⟨rfl, rfl⟩)
              | ((rw [if_pos (by rfl)]); go_simp; go_at_call 104; (with_reducible refine (CP.out _).mono ?_); rintro e w4 ⟨rfl, rfl⟩)
              | (refine step_append_lies _ rfl (.tmp 21) (.tmp 25) 22 rfl wr.heap.size 9 i0 _ 1 16 ht hi hz hs1 hby hzs (by decide) (.slice none 0 0) 0 [] (by simp [Act.eval]) HOWN.out ⟨wr.heap.size, 0, none⟩ 1 1 [.string ⟨#[112, 104, 111, 110, 121]⟩] (by simp [Act.eval]) rfl HNEW.out (by intro u hu; simp at hu; subst hu; rfl) (by decide) (by unfold maxLen; decide) (by decide) (by first | (simp; done) | (simp; omega)) _ rfl ?_; intro g7 c7 w7 hown7 hg7 _ _)))
            all_goals
              go_wp2_with fail
              go_meet
              rw [HTG.out]
              exact ⟨⟨rfl, rfl, rfl, rfl, rfl, rfl, rfl, rfl, rfl, rfl, rfl, rfl, rfl, rfl, rfl, rfl, rfl, rfl, rfl, rfl, rfl, rfl, rfl, rfl, rfl, rfl, rfl, rfl, rfl⟩, some ⟨g7, 0, none⟩, c7, rfl, Lib.hid (own_cap hown7), Lib.hid (rd_of_ownK hown7), Lib.hid (fun h => absurd h (by decide)), Lib.hid ((Below.drew (below_new (Below.refl wr.heap.size wr) _)).grown hg7 (by simp) (fun k hk => by simp [Value.ownBlock] at hk))⟩
        | true =>
          have CM := Lib.hid (fun W => dHas_yes m q HGM hq64 hm ⟨#[109, 97, 100, 101]⟩ W)
          obtain ⟨y1, y2, y3, y4⟩ := HYA.out (.cells #[.string ⟨#[109, 97, 100, 101]⟩] 9)
          cases hp : p.testBit q with
          | false =>
            have CP := Lib.hid (fun W => dHas_no p q HGP hq64 hp ⟨#[112, 104, 111, 110, 121]⟩ W)
            have HA := fun W => run_app_one ⟨wr.heap.size, 0, none⟩ W
            have HTG : Hid (tagsL (m.testBit q) (p.testBit q) = [madeT]) := Lib.hid (by rw [hm, hp]; rfl)
            clear hm hp HGM HGP ht hi hz hs1 hby hzs
            go_region_law ((first
              | ((rw [if_pos (by rfl)]); go_simp; go_at_call 104; (with_reducible refine (CM.out _).mono ?_); rintro e w3 ⟨rfl, rfl⟩)
              | ((rw [if_pos (by rfl)]); go_simp; go_at_call 104; (with_reducible refine (CP.out _).mono ?_); rintro e w4 ⟨rfl, rfl⟩)))
            all_goals
              go_wp2_with fail
              go_meet
              rw [HTG.out]
              exact ⟨⟨rfl, rfl, rfl, rfl, rfl, rfl, rfl, rfl, rfl, rfl, rfl, rfl, rfl, rfl, rfl, rfl, rfl, rfl, rfl, rfl, rfl, rfl, rfl, rfl, rfl, rfl, rfl, rfl, rfl⟩, some ⟨wr.heap.size, 0, none⟩, 1, rfl, Lib.hid (Nat.le_refl _), Lib.hid (rd_lit wr wr.heap.size _ _ _ rfl rfl), Lib.hid (fun h => absurd h (by decide)), Lib.hid (Below.drew (below_new (Below.refl _ _) _))⟩
          | true =>
            have CP := Lib.hid (fun W => dHas_yes p q HGP hq64 hp ⟨#[112, 104, 111, 110, 121]⟩ W)
            obtain ⟨z1, z2, z3, z4⟩ := HYB.out (.cells #[.string ⟨#[109, 97, 100, 101]⟩] 9) (.cells #[.string ⟨#[112, 104, 111, 110, 121]⟩] 9)
            have HOWN : Hid (((wr.alloc (.cells #[.string ⟨#[109, 97, 100, 101]⟩] 9)).alloc (.cells #[.string ⟨#[112, 104, 111, 110, 121]⟩] 9)).ownsRow wr.heap.size 9 1 (.slice (some ⟨wr.heap.size, 0, none⟩) 1 1) 1 [.string ⟨#[109, 97, 100, 101]⟩]) := Lib.hid ((World.ownsRow_lit (base := wr.heap.size) (e := 9) (size := 1) wr #[.string ⟨#[109, 97, 100, 101]⟩] 1 (Nat.le_refl _) (by unfold maxLen; decide) rfl).alloc _)
            have HNEW := Lib.hid (World.news_of_block (heap_alloc_new (wr.alloc (.cells #[.string ⟨#[109, 97, 100, 101]⟩] 9)) (.cells #[.string ⟨#[112, 104, 111, 110, 121]⟩] 9)))
            have HTG : Hid (tagsL (m.testBit q) (p.testBit q) = [madeT, phonyT]) := Lib.hid (by rw [hm, hp]; rfl)
            clear hm hp HGM HGP
            go_region_law ((first
              | ((rw [if_pos (by rfl)]); go_simp; go_at_call 104; (with_reducible refine (CM.out _).mono ?_); rintro e w3 ⟨rfl, rfl⟩)
              | ((rw [if_pos (by rfl)]); go_simp; go_at_call 104; (with_reducible refine (CP.out _).mono ?_); rintro e w4 ⟨rfl, rfl⟩)
              | (refine step_append_lies _ rfl (.tmp 21) (.tmp 25) 22 rfl wr.heap.size 9 i0 _ 1 16 ht hi hz hs1 hby hzs (by decide) (.slice (some ⟨wr.heap.size, 0, none⟩) 1 1) 1 [.string ⟨#[109, 97, 100, 101]⟩] (by simp [Act.eval]) HOWN.out ⟨(wr.alloc (.cells #[.string ⟨#[109, 97, 100, 101]⟩] 9)).heap.size, 0, none⟩ 1 1 [.string ⟨#[112, 104, 111, 110, 121]⟩] (by simp [Act.eval]) rfl HNEW.out (by intro u hu; simp at hu; subst hu; rfl) (by decide) (by unfold maxLen; decide) (by decide) (by first | (simp; done) | (simp; omega)) _ rfl ?_; intro g7 c7 w7 hown7 hg7 _ _)))
            all_goals
              go_wp2_with fail
              go_meet
              rw [HTG.out]
              exact ⟨⟨rfl, rfl, rfl, rfl, rfl, rfl, rfl, rfl, rfl, rfl, rfl, rfl, rfl, rfl, rfl, rfl, rfl, rfl, rfl, rfl, rfl, rfl, rfl, rfl, rfl, rfl, rfl, rfl, rfl⟩, some ⟨g7, 0, none⟩, c7, rfl, Lib.hid (own_cap hown7), Lib.hid (rd_of_ownK hown7), Lib.hid (fun h => absurd h (by decide)), Lib.hid ((Below.drew (below_new (below_new (Below.refl wr.heap.size wr) _) _)).grown hg7 (by simp; omega) (fun k hk => by simp [Value.ownBlock] at hk; omega))⟩
      case rest =>
        obtain ⟨⟨rfl, rfl, rfl, rfl, rfl, rfl, rfl, rfl, rfl, rfl, rfl, rfl, rfl, rfl, rfl, rfl, rfl, rfl, rfl, rfl, rfl, rfl, rfl, rfl, rfl, rfl, rfl, rfl, rfl⟩, A, c, rfl, HC, HR, HAN, HBX⟩ := hcut
        have HBI1 := Lib.hid (dBld_below HBI.out HBX.out)
        have HB2 := Lib.hid (below_then HBW.out HBX.out)
        have HJ := Lib.hid (dJoin_tags (m.testBit q) (p.testBit q) _ HR.out HC.out HAN.out)
        have hl1 : (tagT (m.testBit q) (p.testBit q)).length ≤ 10 := by cases m.testBit q <;> cases p.testBit q <;> decide
        generalize m.testBit q = md at *
        generalize p.testBit q = ph at *
        generalize hQT : (⟨(34 :: (s ++ [34])).toArray⟩ : ByteArray) = qb at *
        have hqs : qb.size ≤ 42 := by rw [← hQT]; simp only [ByteArray.size, List.size_toArray, List.length_cons, List.length_append, List.length_nil]; have := HSL.out; omega
        unfold TxtPost at HJ
        generalize hTT : (⟨(tagT md ph).toArray⟩ : ByteArray) = tb at *
        have hts : tb.size ≤ 10 := by rw [← hTT]; simp only [ByteArray.size, List.size_toArray]; omega
        generalize (tagsL md ph).length = tl at *
        clear hQT hTT hl1 HBI HBW HBX HR HC HAN x1 x2 x3 x4 hc
        have z1 : (⟨#[32, 32]⟩ : ByteArray).size = 2 := rfl
        have z2 : (⟨#[32, 91]⟩ : ByteArray).size = 2 := rfl
        have z3 : (⟨#[93, 59, 10]⟩ : ByteArray).size = 3 := rfl
        have n1 : (⟨#[32, 32]⟩ : ByteArray).size + qb.size ≤ 9223372036854775807 := by omega
        have n2 : (⟨#[32, 32]⟩ : ByteArray).size + qb.size + (⟨#[32, 91]⟩ : ByteArray).size ≤ 9223372036854775807 := by omega
        have n3 : (⟨#[32, 32]⟩ : ByteArray).size + qb.size + (⟨#[32, 91]⟩ : ByteArray).size + tb.size ≤ 9223372036854775807 := by omega
        have n4 : (⟨#[32, 32]⟩ : ByteArray).size + qb.size + (⟨#[32, 91]⟩ : ByteArray).size + tb.size + (⟨#[93, 59, 10]⟩ : ByteArray).size ≤ 9223372036854775807 := by omega
        have HL4 : Hid ((Lib.byteCells (drawN N p m q)).length + ((⟨#[32, 32]⟩ : ByteArray) ++ qb ++ ⟨#[32, 91]⟩ ++ tb ++ ⟨#[93, 59, 10]⟩).size ≤ 140737488355328) := Lib.hid (by
          rw [Lib.byteCells_length]
          simp only [ByteArray.size_append]
          have := HLQ.out
          omega)
        clear z1 z2 z3
        go_wp2_with fail
        refine (HQ.out _).mono ?_
        rintro e w' ⟨rfl, rfl⟩
        go_wp2_with fail
        refine HJ.out.mono ?_
        rintro e w4 ⟨rfl, hb4⟩
        have HB4 := Lib.hid (below_then HB2.out hb4)
        have HBI4 := Lib.hid (dBld_below HBI1.out hb4)
        have hsz4 := HB4.out.size
        clear hb4
        go_wp2_with fail
        refine (bld_str wz.heap.size wz.heap.size (Lib.byteCells (drawN N p m q)) _ w4 HBI4.out HL4.out hsz4).mono ?_
        rintro e w7 ⟨rfl, h7, hb7, _⟩
        have HI7 : Hid (DBld wz.heap.size (drawN N p m (q + 1)) w7) := Lib.hid (by have h := h7; rw [HCAT.out, dBld_cat] at h; rw [HSE.out]; exact .inr h)
        have HB7 := Lib.hid (HB4.out.trans hb7)
        clear h7 hb7
        go_wp2_with fail
        go_roundw
        case rel => exact ⟨q + 1, by omega, by go_num, HI7, HB7⟩
        case measure => simp [intOf]; omega
    · have hqn : ¬ (q : Int) < (n : Int) := by omega
      have HE0 : Hid (DBld wz.heap.size (drawE N E p m 0) wr) := Lib.hid (by
        have h := HBI.out
        rw [drawN_end N E p m (by rw [HG.out.nlen]; omega)] at h
        exact h)
      have HW0 := Lib.hid HBW.out
      clear HBI HBW
      obtain ⟨x1, x2, x3, x4⟩ := XW.out
      go_wp2_with fail
      go_loopw [8, 40] (fun _ i wv => ∃ t : Nat, t ≤ k ∧ i = .int .i64 (t : Int) ∧ Hid (DBld wz.heap.size (drawE N E p m t) wv) ∧ Hid (Below wz.heap.size wz wv)) (fun _ i _ => k - (intOf i).toNat)
      case atStart => exact ⟨0, by omega, rfl, HE0, HW0⟩
      case round =>
        clear HE0 XW x1 x2 x3 x4
        obtain ⟨t, ht, rfl, HBI, HBW⟩ := hrel
        have XV := Lib.hid (X1.out.below HBW.out)
        by_cases hltk : t < k
        · obtain ⟨⟨ea, eb⟩, he⟩ : ∃ e, E[t]? = some e := ⟨_, List.getElem?_eq_getElem (by rw [HG.out.elen]; exact hltk)⟩
          have HGW := Lib.hid ((HG.out.below HB1.out).below HBW.out)
          obtain ⟨be, oe, hA2, y1, y2⟩ := HGW.out.edges.edge he
          obtain ⟨a1, a2, a3, a4⟩ := edge_at HO.out.out (List.mem_of_getElem? he)
          have HSE := Lib.hid (drawE_succ N p m he)
          simp only at a1 a2 a3 a4 y1 y2
          obtain ⟨ia, rfl⟩ : ∃ ia : Nat, ea = (ia : Int) := ⟨ea.toNat, by omega⟩
          obtain ⟨ib, rfl⟩ : ∃ ib : Nat, eb = (ib : Int) := ⟨eb.toNat, by omega⟩
          simp only [Int.toNat_natCast] at a1 a2 HSE
          obtain ⟨bN, oN, hA1, s1⟩ := HGW.out.names.scell (nmAt_at a1)
          obtain ⟨bN', oN', hA1', s2⟩ := HGW.out.names.scell (nmAt_at a2)
          rw [hA1] at hA1'
          injection hA1' with hA1'
          injection hA1' with e1 e2 _
          subst e1 e2 hA1 hA2
          rw [HG.out.nlen] at a1 a2
          have i1 : (ia : Int) < (n : Int) := by omega
          have i2 : (ib : Int) < (n : Int) := by omega
          have i3 : (t : Int) < (k : Int) := by omega
          have HL1 : Hid ((nmAt N ia).length ≤ 40) := Lib.hid (good_len (nmAt_good HO.out.good (by rw [HG.out.nlen]; exact a1)))
          have HL2 : Hid ((nmAt N ib).length ≤ 40) := Lib.hid (good_len (nmAt_good HO.out.good (by rw [HG.out.nlen]; exact a2)))
          have HLQ : Hid ((drawE N E p m t).length ≤ 1000000) := Lib.hid (drawE_len p m t HO.out.good HO.out.n64 HO.out.out (by rw [HG.out.elen]; exact hk))
          have HQ1 := Lib.hid (fun W => dQuoted_any (nmAt N ia) W (by have := HL1.out; omega))
          have HQ2 := Lib.hid (fun W => dQuoted_any (nmAt N ib) W (by have := HL2.out; omega))
          have HCAT := Lib.hid (cat_link (nmAt N ia) (nmAt N ib))
          generalize hSA : (⟨(nmAt N ia).toArray⟩ : ByteArray) = SA at s1 HQ1
          generalize hSB : (⟨(nmAt N ib).toArray⟩ : ByteArray) = SB at s2 HQ2
          generalize hqa : (⟨(34 :: (nmAt N ia ++ [34])).toArray⟩ : ByteArray) = qa at *
          generalize hqb : (⟨(34 :: (nmAt N ib ++ [34])).toArray⟩ : ByteArray) = qb at *
          have z1 : qa.size ≤ 42 := by rw [← hqa]; simp only [ByteArray.size, List.size_toArray, List.length_cons, List.length_append, List.length_nil]; have := HL1.out; omega
          have z2 : qb.size ≤ 42 := by rw [← hqb]; simp only [ByteArray.size, List.size_toArray, List.length_cons, List.length_append, List.length_nil]; have := HL2.out; omega
          clear hSA hSB hqa hqb he a3 a4
          have n1 : ¬ (9223372036854775807 < 2 + qa.size) := by omega
          have n2 : ¬ (9223372036854775807 < 2 + qa.size + 4) := by omega
          have n3 : ¬ (9223372036854775807 < 2 + qa.size + 4 + qb.size) := by omega
          have n4 : ¬ (9223372036854775807 < 2 + qa.size + 4 + qb.size + 2) := by omega
          go_upto_region 12 with fail
          have HEB := Lib.hid (Blk.new wr #[.int .i64 (ia : Int), .int .i64 (ib : Int)] 102)
          have HBN := Lib.hid (below_new HBW.out (.cells #[.int .i64 (ia : Int), .int .i64 (ib : Int)] 102))
          have HBJ := Lib.hid (dBld_below HBI.out (below_new (Below.refl wr.heap.size wr) (.cells #[.int .i64 (ia : Int), .int .i64 (ib : Int)] 102)))
          have HNE : Hid (wr.heap.size ≠ wz.heap.size) := Lib.hid (by have := dBld_lt HBI.out; omega)
          have hlG : w.heap.size < wz.heap.size := lt_of_cell' X1.out.c1
          have s1' := cell_alloc s1 (.cells #[.int .i64 (ia : Int), .int .i64 (ib : Int)] 102)
          have s2' := cell_alloc s2 (.cells #[.int .i64 (ia : Int), .int .i64 (ib : Int)] 102)
          have x1' := (grBox_alloc XV.out (.cells #[.int .i64 (ia : Int), .int .i64 (ib : Int)] 102)).c1
          have hlN : bN < wz.heap.size := by
            have h1 := lt_of_cell' s1
            have h2 : bN < w.heap.size := by
              obtain ⟨bN2, oN2, hA, s0⟩ := HG.out.names.scell (nmAt_at (by rw [HG.out.nlen]; exact a1))
              injection hA with hA
              injection hA with e1 e2 _
              rw [e1]
              exact lt_of_cell' s0
            exact Nat.lt_trans h2 hlG
          generalize hwb : wr.alloc (.cells #[.int .i64 (ia : Int), .int .i64 (ib : Int)] 102) = wb at *
          have hszb := HBN.out.size
          have y1 := HEB.out.cell (j := 0) rfl
          have y2 := HEB.out.cell (j := 1) rfl
          have HSL := Lib.hid (fun W (hW : Below wz.heap.size wb W) (hK : Lib.OthersKept 5 (some wz.heap.size) wb W) => (⟨(hW.cell (p := ⟨w.heap.size, 0, none⟩) hlG).trans x1', (okcE hK HEB.out HNE.out).cell (j := 0) rfl, (okcE hK HEB.out HNE.out).cell (j := 1) rfl, (hW.cell (p := ⟨bN, oN + ia, none⟩) hlN).trans s1', (hW.cell (p := ⟨bN, oN + ib, none⟩) hlN).trans s2', hW, hK⟩ :
            W.cell? ⟨w.heap.size, 0, none⟩ = some (.slice (some ⟨bN, oN, none⟩) n c1) ∧ W.cell? ⟨wr.heap.size, 0, none⟩ = some (.int .i64 (ia : Int)) ∧ W.cell? ⟨wr.heap.size, 1, none⟩ = some (.int .i64 (ib : Int)) ∧ W.cell? ⟨bN, oN + ia, none⟩ = some (.string SA) ∧ W.cell? ⟨bN, oN + ib, none⟩ = some (.string SB) ∧ Below wz.heap.size wb W ∧ Lib.OthersKept 5 (some wz.heap.size) wb W))
          have HCL := Lib.hid (bld_str wz.heap.size wz.heap.size (Lib.byteCells (drawE N E p m t)) (⟨#[32, 32]⟩ ++ qa ++ ⟨#[32, 45, 62, 32]⟩ ++ qb ++ ⟨#[59, 10]⟩) wb.drew (bld_drewD HBJ.out))
          have HBL : Hid ((Lib.byteCells (drawE N E p m t)).length + ((⟨#[32, 32]⟩ : ByteArray) ++ qa ++ ⟨#[32, 45, 62, 32]⟩ ++ qb ++ ⟨#[59, 10]⟩).size ≤ 140737488355328) := Lib.hid (by
            have z1 : (⟨#[32, 32]⟩ : ByteArray).size = 2 := rfl
            have z2 : (⟨#[32, 45, 62, 32]⟩ : ByteArray).size = 4 := rfl
            have z3 : (⟨#[59, 10]⟩ : ByteArray).size = 2 := rfl
            rw [Lib.byteCells_length]
            simp only [ByteArray.size_append]
            have := HLQ.out
            omega)
          have bd : Below wz.heap.size wb wb.drew := Below.drew (Below.refl _ _)
          have kd : Lib.OthersKept 5 (some wz.heap.size) wb wb.drew := Lib.OthersKept.drew (Lib.OthersKept.refl _ _ _)
          clear s1 s2 HBI HBW XV hwb HGW
          go_region_held3 (fun W => W.cell? ⟨w.heap.size, 0, none⟩ = some (.slice (some ⟨bN, oN, none⟩) n c1) ∧ W.cell? ⟨wr.heap.size, 0, none⟩ = some (.int .i64 (ia : Int)) ∧ W.cell? ⟨wr.heap.size, 1, none⟩ = some (.int .i64 (ib : Int)) ∧ W.cell? ⟨bN, oN + ia, none⟩ = some (.string SA) ∧ W.cell? ⟨bN, oN + ib, none⟩ = some (.string SB) ∧ Below wz.heap.size wb W ∧ Lib.OthersKept 5 (some wz.heap.size) wb W)
            ((refine HSL.out _ ?_ ?_ <;> first | assumption | exact Below.drew (by assumption) | exact Lib.OthersKept.drew (by assumption)))
            ((first
              | (go_at_call 105; (with_reducible refine (HQ1.out _).mono ?_); rintro e u5 ⟨rfl, rfl⟩)
              | (go_at_call 105; (with_reducible refine (HQ2.out _).mono ?_); rintro e u6 ⟨rfl, rfl⟩)
              | (go_at_call 103; (refine (HCL.out HBL.out hszb).mono ?_); rintro e u7 ⟨rfl, h7, b7, k7⟩; have b7' := bd.trans b7; have k7' := kd.trans k7)))
          have HI7 : Hid (DBld wz.heap.size (drawE N E p m (t + 1)) u7) := Lib.hid (by have h := h7; rw [HCAT.out, dBld_cat] at h; rw [HSE.out]; exact .inr h)
          have HB7 := Lib.hid (HBN.out.trans b7')
          clear h7 b7 k7 b7' k7' bd kd HSL HCL HBL HBJ HBN
          go_wp2_with fail
          go_roundw
          case rel => exact ⟨t + 1, by omega, by go_num, HI7, HB7⟩
          case measure => simp [intOf]; omega
        · have hqk : ¬ (t : Int) < (k : Int) := by omega
          have HE1 := Lib.hid (drawE_end N (E := E) p m (n := t) (by rw [HG.out.elen]; omega))
          have HLQ := drawE_len p m t HO.out.good HO.out.n64 HO.out.out (by rw [HG.out.elen]; exact hk)
          have HBL : Hid ((Lib.byteCells (drawE N E p m t)).length + (⟨dTail.toArray⟩ : ByteArray).size ≤ 140737488355328) := Lib.hid (by
            have z3 : (⟨dTail.toArray⟩ : ByteArray).size = 2 := rfl
            rw [Lib.byteCells_length]
            omega)
          clear HLQ
          go_wp2_with fail
          refine (bld_str wz.heap.size wz.heap.size (Lib.byteCells (drawE N E p m t)) ⟨dTail.toArray⟩ wr HBI.out HBL.out HBW.out.size).mono ?_
          rintro e u7 ⟨rfl, h7, b7, k7⟩
          have HI7 : Hid (DBld wz.heap.size (drawT N E p m) u7) := Lib.hid (by have h := h7; rw [dBld_cat, HE1.out] at h; exact .inr h)
          have HB7 := Lib.hid (HBW.out.trans b7)
          clear h7 b7 k7
          go_wp2_with fail
          refine (Tryz.Builder_String_any wz.heap.size wz.heap.size (drawT N E p m) u7 HI7.out HB7.out.size).mono ?_
          rintro e w8 ⟨rfl, hb8⟩
          have HB8 := Lib.hid (HB7.out.trans hb8)
          clear hb8
          go_wp2_with fail
          go_ret
          exact ⟨rfl, HB1.out.trans (HB8.out.mono HB1.out.size)⟩
end
end Go.Proofs.YtoandhhkmkgmaaaGreatDoor
/- Contract: the reference's Drawn at a good graph. -/
namespace Go.Proofs.YtoandhhkmkgmaaaGreatDoor
open Go.RowKit

theorem cat3 (a b c : List UInt8) : (⟨a.toArray⟩ : ByteArray) ++ ⟨b.toArray⟩ ++ ⟨c.toArray⟩ = ⟨(a ++ b ++ c).toArray⟩ := by rw [ByteArray.mk_append_mk, ByteArray.mk_append_mk]
theorem inS_nat {s i : Nat} : inS s (i : Int) = s.testBit i := by unfold inS; simp
section
variable {A1 A2 : Option Addr} {n k c1 c2 : Nat} {N : List (List UInt8)} {E : List EdgeT} {p m : Nat} (w : World) (hG : GrIn A1 n A2 k N E p m w)
include hG
set_option maxRecDepth 100000 in
set_option maxHeartbeats 4000000 in
theorem rDrawn_any (hok : GOk N E p m) : Calls Tryz.prog 22 #[gv A1 n c1 A2 k c2 p m] w (TxtPost (drawT N E p m) w) := by
  have hn64 : n ≤ 64 := by have := hok.n64; rw [hG.nlen] at this; exact this
  have hk : k ≤ 4096 := by have := edges_le hok.n64 hok.out hok.ris; rw [hG.elen] at this; exact this
  have HG := Lib.hid hG
  have HO := Lib.hid hok
  have CM := Lib.hid (fun (q : Nat) W => in_any m hG.m64 (q : Int) W)
  have CP := Lib.hid (fun (q : Nat) W => in_any p hG.p64 (q : Int) W)
  clear hG hok
  unfold gv
  go_enter Tryz.func22, Tryz.ntmps22
  go_upto_region 1 with fail
  obtain ⟨b1, b2, b3, b4, b5⟩ := box_four w (.slice A1 n c1) (.slice A2 k c2) (.int .u64 (p : Int)) (.int .u64 (m : Int)) 43
  obtain ⟨w1, hw1⟩ : ∃ w1, w1 = w.alloc (.cells #[.slice A1 n c1, .slice A2 k c2, .int .u64 (p : Int), .int .u64 (m : Int)] 43) := ⟨_, rfl⟩
  rw [← hw1] at b1 b2 b3 b4 b5 ⊢
  have X1 : Hid (GrBox w.heap.size (.slice A1 n c1) (.slice A2 k c2) (.int .u64 (p : Int)) (.int .u64 (m : Int)) w1) := Lib.hid ⟨b1, b2, b3, b4⟩
  have HB1 := Lib.hid b5
  clear b1 b2 b3 b4 b5 hw1
  obtain ⟨x1, x2, x3, x4⟩ := X1.out
  go_wp2_with fail
  go_loopw [3, 4, 5, 11] (fun t _ _ i wr => wr = w1 ∧ ∃ q : Nat, q ≤ n ∧ i = .int .i64 (q : Int) ∧ t = .string ⟨(drawN N p m q).toArray⟩) (fun _ _ _ i _ => n - (intOf i).toNat)
  case atStart => exact ⟨rfl, 0, by omega, rfl, rfl⟩
  case round =>
    obtain ⟨rfl, q, hq, rfl, rfl⟩ := hrel
    by_cases hlt : q < n
    · obtain ⟨s, hs⟩ : ∃ s, N[q]? = some s := ⟨_, List.getElem?_eq_getElem (by rw [HG.out.nlen]; exact hlt)⟩
      obtain ⟨b, off, rfl, hc⟩ := (HG.out.below HB1.out).names.scell hs
      have hl1 : s.length ≤ 40 := good_len (List.all_eq_true.1 HO.out.good _ (List.mem_of_getElem? hs))
      have hl2 := drawN_len p m q HO.out.good HO.out.n64
      have z1 : (⟨s.toArray⟩ : ByteArray).size ≤ 40 := by simp only [ByteArray.size, List.size_toArray]; exact hl1
      have z2 : (⟨(drawN N p m q).toArray⟩ : ByteArray).size ≤ 10000 := by simp only [ByteArray.size, List.size_toArray]; exact hl2
      have hq2 : (q : Int) < (n : Int) := by omega
      have C1 := Lib.hid (CM.out q)
      have C2 := Lib.hid (CP.out q)
      rw [inS_nat] at C1 C2
      have HFIN : Hid (∀ md ph, m.testBit q = md → p.testBit q = ph → ∀ B : ByteArray, B = ⟨(drawN N p m q).toArray⟩ ++ (⟨#[32, 32, 34]⟩ ++ ⟨s.toArray⟩ ++ ⟨#[34, 32, 91]⟩) ++ ⟨(tagT md ph).toArray⟩ ++ ⟨#[93, 59, 10]⟩ → B = ⟨(drawN N p m (q + 1)).toArray⟩) := Lib.hid (by
        rintro md ph hmd hph B rfl
        rw [drawN_succ p m hs, hmd, hph]
        have e1 : (⟨#[32, 32, 34]⟩ : ByteArray) = ⟨[(32 : UInt8), 32, 34].toArray⟩ := rfl
        have e2 : (⟨#[34, 32, 91]⟩ : ByteArray) = ⟨[(34 : UInt8), 32, 91].toArray⟩ := rfl
        have e3 : (⟨#[93, 59, 10]⟩ : ByteArray) = ⟨[(93 : UInt8), 59, 10].toArray⟩ := rfl
        rw [e1, e2, e3, ByteArray.mk_append_mk, ByteArray.mk_append_mk, ByteArray.mk_append_mk, ByteArray.mk_append_mk, ByteArray.mk_append_mk]
        unfold nodeL preT endT
        simp)
      clear hs hl1 hl2
      generalize (⟨s.toArray⟩ : ByteArray) = bs at *
      generalize (⟨(drawN N p m q).toArray⟩ : ByteArray) = bq at *
      have k1 : (⟨#[32, 32, 34]⟩ : ByteArray).size = 3 := rfl
      have k2 : (⟨#[34, 32, 91]⟩ : ByteArray).size = 3 := rfl
      cases hm : m.testBit q with
      | true =>
        rw [hm] at C1
        cases hp : p.testBit q with
        | true =>
          rw [hp] at C2
          have HB := Lib.hid (HFIN.out true true hm hp)
          clear hm hp HFIN CM CP HG HO
          go_wp2_with (first
            | (go_at_call 58; (with_reducible refine (C1.out _).mono ?_); rintro e w' ⟨rfl, rfl⟩)
            | (go_at_call 58; (with_reducible refine (C2.out _).mono ?_); rintro e w' ⟨rfl, rfl⟩))
          exact ⟨⟨trivial, q + 1, by omega, by go_num, congrArg Value.string (HB.out _ (by rw [show (⟨(tagT true true).toArray⟩ : ByteArray) = (⟨#[109, 97, 100, 101]⟩ : ByteArray) ++ (⟨#[44]⟩ : ByteArray) ++ (⟨#[112, 104, 111, 110, 121]⟩ : ByteArray) from rfl]; simp only [ByteArray.append_assoc]))⟩, by simp [intOf]; omega⟩
        | false =>
          rw [hp] at C2
          have HB := Lib.hid (HFIN.out true false hm hp)
          clear hm hp HFIN CM CP HG HO
          go_wp2_with (first
            | (go_at_call 58; (with_reducible refine (C1.out _).mono ?_); rintro e w' ⟨rfl, rfl⟩)
            | (go_at_call 58; (with_reducible refine (C2.out _).mono ?_); rintro e w' ⟨rfl, rfl⟩))
          exact ⟨⟨trivial, q + 1, by omega, by go_num, congrArg Value.string (HB.out _ (by rw [show (⟨(tagT true false).toArray⟩ : ByteArray) = (⟨#[109, 97, 100, 101]⟩ : ByteArray) from rfl]))⟩, by simp [intOf]; omega⟩
      | false =>
        rw [hm] at C1
        cases hp : p.testBit q with
        | true =>
          rw [hp] at C2
          have HB := Lib.hid (HFIN.out false true hm hp)
          clear hm hp HFIN CM CP HG HO
          go_wp2_with (first
            | (go_at_call 58; (with_reducible refine (C1.out _).mono ?_); rintro e w' ⟨rfl, rfl⟩)
            | (go_at_call 58; (with_reducible refine (C2.out _).mono ?_); rintro e w' ⟨rfl, rfl⟩))
          exact ⟨⟨trivial, q + 1, by omega, by go_num, congrArg Value.string (HB.out _ (by rw [show (⟨(tagT false true).toArray⟩ : ByteArray) = (⟨#[112, 104, 111, 110, 121]⟩ : ByteArray) from rfl]))⟩, by simp [intOf]; omega⟩
        | false =>
          rw [hp] at C2
          have HB := Lib.hid (HFIN.out false false hm hp)
          clear hm hp HFIN CM CP HG HO
          go_wp2_with (first
            | (go_at_call 58; (with_reducible refine (C1.out _).mono ?_); rintro e w' ⟨rfl, rfl⟩)
            | (go_at_call 58; (with_reducible refine (C2.out _).mono ?_); rintro e w' ⟨rfl, rfl⟩))
          exact ⟨⟨trivial, q + 1, by omega, by go_num, congrArg Value.string (HB.out _ (by rw [show (⟨(tagT false false).toArray⟩ : ByteArray) = ByteArray.empty from rfl, ByteArray.append_empty]))⟩, by simp [intOf]; omega⟩
    · have hqn : ¬ (q : Int) < (n : Int) := by omega
      have HE0 : Hid ((⟨(drawN N p m q).toArray⟩ : ByteArray) = ⟨(drawE N E p m 0).toArray⟩) := Lib.hid (by rw [drawN_end N E p m (by rw [HG.out.nlen]; omega)])
      go_wp2_with fail
      go_loopw [3, 7, 51] (fun t _ i wv => ∃ q : Nat, q ≤ k ∧ i = .int .i64 (q : Int) ∧ t = .string ⟨(drawE N E p m q).toArray⟩ ∧ Hid (Below wr.heap.size wr wv)) (fun _ _ i _ => k - (intOf i).toNat)
      case atStart => exact ⟨0, by omega, rfl, by rw [HE0.out], Lib.hid (Below.refl _ _)⟩
      case round =>
        obtain ⟨t, ht, rfl, rfl, HBW⟩ := hrel
        have XV := Lib.hid (X1.out.below HBW.out)
        by_cases hltk : t < k
        · obtain ⟨⟨ea, eb⟩, he⟩ : ∃ e, E[t]? = some e := ⟨_, List.getElem?_eq_getElem (by rw [HG.out.elen]; exact hltk)⟩
          have HGW := Lib.hid ((HG.out.below HB1.out).below HBW.out)
          obtain ⟨be, oe, hA2, y1, y2⟩ := HGW.out.edges.edge he
          obtain ⟨a1, a2, a3, a4⟩ := edge_at HO.out.out (List.mem_of_getElem? he)
          have HSE := Lib.hid (drawE_succ N p m he)
          simp only at a1 a2 a3 a4 y1 y2
          obtain ⟨ia, rfl⟩ : ∃ ia : Nat, ea = (ia : Int) := ⟨ea.toNat, by omega⟩
          obtain ⟨ib, rfl⟩ : ∃ ib : Nat, eb = (ib : Int) := ⟨eb.toNat, by omega⟩
          simp only [Int.toNat_natCast] at a1 a2 HSE
          obtain ⟨bN, oN, hA1, s1⟩ := HGW.out.names.scell (nmAt_at a1)
          obtain ⟨bN', oN', hA1', s2⟩ := HGW.out.names.scell (nmAt_at a2)
          rw [hA1] at hA1'
          injection hA1' with hA1'
          injection hA1' with e1 e2 _
          subst e1 e2 hA1 hA2
          rw [HG.out.nlen] at a1 a2
          have i1 : (ia : Int) < (n : Int) := by omega
          have i2 : (ib : Int) < (n : Int) := by omega
          have i3 : (t : Int) < (k : Int) := by omega
          have hl1 := good_len (nmAt_good HO.out.good (by rw [HG.out.nlen]; exact a1))
          have hl2 := good_len (nmAt_good HO.out.good (by rw [HG.out.nlen]; exact a2))
          have hlq := drawE_len p m t HO.out.good HO.out.n64 HO.out.out (by rw [HG.out.elen]; exact hk)
          have HCAT : Hid ((⟨(drawE N E p m t).toArray⟩ : ByteArray) ++ (⟨#[32, 32, 34]⟩ ++ ⟨(nmAt N ia).toArray⟩ ++ ⟨#[34, 32, 45, 62, 32, 34]⟩ ++ ⟨(nmAt N ib).toArray⟩ ++ ⟨#[34, 59, 10]⟩) = ⟨(drawE N E p m (t + 1)).toArray⟩) := Lib.hid (by
            rw [HSE.out]
            have e1 : (⟨#[32, 32, 34]⟩ : ByteArray) = ⟨[(32 : UInt8), 32, 34].toArray⟩ := rfl
            have e2 : (⟨#[34, 32, 45, 62, 32, 34]⟩ : ByteArray) = ⟨[(34 : UInt8), 32, 45, 62, 32, 34].toArray⟩ := rfl
            have e3 : (⟨#[34, 59, 10]⟩ : ByteArray) = ⟨[(34 : UInt8), 59, 10].toArray⟩ := rfl
            rw [e1, e2, e3, ByteArray.mk_append_mk, ByteArray.mk_append_mk, ByteArray.mk_append_mk, ByteArray.mk_append_mk, ByteArray.mk_append_mk]
            unfold linkL preT midT clsT
            simp)
          have z1 : (⟨(nmAt N ia).toArray⟩ : ByteArray).size ≤ 40 := by simp only [ByteArray.size, List.size_toArray]; exact hl1
          have z2 : (⟨(nmAt N ib).toArray⟩ : ByteArray).size ≤ 40 := by simp only [ByteArray.size, List.size_toArray]; exact hl2
          have z3 : (⟨(drawE N E p m t).toArray⟩ : ByteArray).size ≤ 1000000 := by simp only [ByteArray.size, List.size_toArray]; exact hlq
          generalize (⟨(nmAt N ia).toArray⟩ : ByteArray) = SA at *
          generalize (⟨(nmAt N ib).toArray⟩ : ByteArray) = SB at *
          generalize (⟨(drawE N E p m t).toArray⟩ : ByteArray) = bq at *
          clear he a3 a4 hl1 hl2 hlq CM CP
          have HEB := Lib.hid (Blk.new wr #[.int .i64 (ia : Int), .int .i64 (ib : Int)] 102)
          have HBN := Lib.hid (below_new HBW.out (.cells #[.int .i64 (ia : Int), .int .i64 (ib : Int)] 102))
          have s1' := cell_alloc s1 (.cells #[.int .i64 (ia : Int), .int .i64 (ib : Int)] 102)
          have s2' := cell_alloc s2 (.cells #[.int .i64 (ia : Int), .int .i64 (ib : Int)] 102)
          have x1' := (grBox_alloc XV.out (.cells #[.int .i64 (ia : Int), .int .i64 (ib : Int)] 102)).c1
          go_upto_region 17 with fail
          generalize hwb : wr.alloc (.cells #[.int .i64 (ia : Int), .int .i64 (ib : Int)] 102) = wb at *
          have v1 := HEB.out.cell (j := 0) rfl
          have v2 := HEB.out.cell (j := 1) rfl
          clear s1 s2 XV hwb HGW
          go_quiet (fail)
          go_wp2_with fail
          go_roundw
          case rel => exact ⟨t + 1, by omega, by go_num, congrArg Value.string HCAT.out, Lib.hid (below_drewN HBN.out _)⟩
          case measure => simp [intOf]; omega
        · have hqk : ¬ (t : Int) < (k : Int) := by omega
          have hE1 := drawE_end N (E := E) p m (n := t) (by rw [HG.out.elen]; omega)
          have HE1 : Hid ((⟨(drawE N E p m t).toArray⟩ : ByteArray) ++ ⟨#[125, 10]⟩ = ⟨(drawT N E p m).toArray⟩) := Lib.hid (by
            rw [← hE1]
            have e1 : (⟨#[125, 10]⟩ : ByteArray) = ⟨dTail.toArray⟩ := rfl
            rw [e1, ByteArray.mk_append_mk])
          have hlq := drawE_len p m t HO.out.good HO.out.n64 HO.out.out (by rw [HG.out.elen]; exact hk)
          have z3 : (⟨(drawE N E p m t).toArray⟩ : ByteArray).size ≤ 1000000 := by simp only [ByteArray.size, List.size_toArray]; exact hlq
          generalize (⟨(drawE N E p m t).toArray⟩ : ByteArray) = bq at *
          clear hE1 hlq
          go_wp2_with fail
          go_ret
          exact ⟨congrArg (fun b => Ending.returned (.string b)) HE1.out, below_then HB1.out HBW.out⟩
end
end Go.Proofs.YtoandhhkmkgmaaaGreatDoor
