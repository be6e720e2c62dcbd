/- The walks of strings.SplitSeq at a separator of one byte: its iterator. What the rows' list of layer 19 gives: utf8's tables, strings.asciiSpace; structs that came in (printed by gen_lncard.py). The walks of a line's words: the iterator. The walks of a paragraph's small questions (printed by gen_lnc.py). -/
import Derived.Test.YtempicociampoaaGreatDoorJ1
import Derived.Test.YtempicociampoaaGreatDoorJ10
import Derived.Lib.IndexLaws
import Derived.Shelf.Strings.Search3
import Derived.Test.YtempicociampoaaGreatDoorJ15
import Derived.Test.YtempicociampoaaGreatDoorJ12
import Derived.Test.YtempicociampoaaGreatDoorJ6
import Derived.Lib.LaidTab
import Derived.Test.YtempicociampoaaGreatDoorJ7
import Derived.Test.YtempicociampoaaGreatDoorJ4
import Derived.Test.YtempicociampoaaGreatDoorJ5
import Derived.Deep.DeepCutAuto
import Derived.Deep.QuietTactic
import Derived.Lib.MinMax
namespace Go.Proofs.YtempicociampoaaGreatDoor
open Go.RowKit Go.Shelf
attribute [local go_sem] Oper.semAt_some

def toB (l : L8) : ByteArray := ⟨l.toArray⟩
theorem toB_list (l : L8) : (toB l).data.toList = l := rfl
theorem toB_size (l : L8) : (toB l).size = l.length := rfl
theorem ba_toB (s : ByteArray) : toB s.data.toList = s := by
 obtain ⟨⟨a⟩⟩ := s; rfl
theorem ba_ext8 {a b : ByteArray} (h : a.data.toList = b.data.toList) : a = b := by rw [← ba_toB a, h, ba_toB]
theorem ex8 (s : ByteArray) (i j : Nat) : (s.extract i j).data.toList = (s.data.toList.take j).drop i := by
 simp [ByteArray.data_extract, List.take_drop]
 by_cases h : i ≤ j
 ·rw [List.drop_take, show i + (j - i) - i = j - i by omega, List.drop_take]
 ·rw [List.drop_eq_nil_of_le (by simp; omega), List.drop_eq_nil_of_le (by simp; omega)]
theorem size8 (s : ByteArray) : s.data.toList.length = s.size := by rw [Array.length_toList]; rfl

/-- a text's pieces between bytes of a kind -/
def pcsB (c : UInt8) (s : ByteArray) : List ByteArray := (cutB c s.data.toList).map toB
/-- what the iterator reads: the separator, and how much of it stays -/
def SpR (c : UInt8) (bp bq : Nat) (W : World) : Prop := W.heap[bp]? = some (.cells #[.string ⟨#[c]⟩] 9 (0, 0)) ∧ W.heap[bq]? = some (.cells #[.int .i64 0] 3 (0, 0))
theorem SpR.st {c : UInt8} {bp bq : Nat} (B : Nat) : St B (SpR c bp bq) := fun _ _ hk ⟨h1, h2⟩ => ⟨hk.same _ _ h1 (.inl rfl), hk.same _ _ h2 (.inl rfl)⟩
end Go.Proofs.YtempicociampoaaGreatDoor
namespace Go.Proofs.YtempicociampoaaGreatDoor
open Go.Shelf Go.Lib Go.ChangeShapes Go.WideShapes Go.ChangeAt Go.RowKit

def tabList19 : List (String × DataW Unit) := Rows.linesTextUptoRow.laid
def aspTab : List Int := (List.range 256).map fun c => if c = 9 ∨ c = 10 ∨ c = 11 ∨ c = 12 ∨ c = 13 ∨ c = 32 then 1 else 0
theorem asp_eq : (Rows.laid_strings_asciiSpace : DataW Unit) = tabData .u8 aspTab := by kernel_rfl

theorem asp_of19 {W : World} (hL : laidMet Tryz.prog tabList19 W) : Asp W := by
 have h1 := Lib.laidMet.reads hL (n := "strings.asciiSpace") (d := Rows.laid_strings_asciiSpace) (by first | exact .head _ | exact .tail _ (.head _) | exact .tail _ (.tail _ (.head _)) | exact .tail _ (.tail _ (.tail _ (.head _))))
 rw [asp_eq] at h1
 obtain ⟨g, t, cs, fuel, p, hg, hty, hvar, hd⟩ := h1
 obtain rfl := Option.some.inj ((show Tryz.prog.globalNamed "strings.asciiSpace" = some 3 by kernel_rfl).symm.trans hg)
 obtain rfl := Option.some.inj ((show Option.map (fun x => x.type) Tryz.prog.globals[3]? = some 171 by kernel_rfl).symm.trans hty)
 have hcs := cells_of_tab (P := Tryz.prog) Tryz.underlying171 Tryz.underlying5 (by kernel_rfl) (by kernel_rfl) hd
 intro c hc
 rw [World.var?_cell hg hvar c, ← Array.getElem?_toList, hcs]
 simp [aspTab, hc]
theorem tabs_of19 {W : World} (hL : laidMet Tryz.prog tabList19 W) : Tabs W := by
 have h1 := Lib.laidMet.reads hL (n := "unicode/utf8.first") (d := Rows.laid_unicode_utf8_first) (by first | exact .head _ | exact .tail _ (.head _) | exact .tail _ (.tail _ (.head _)) | exact .tail _ (.tail _ (.tail _ (.head _))))
 have h2 := Lib.laidMet.reads hL (n := "unicode/utf8.acceptRanges") (d := Rows.laid_unicode_utf8_acceptRanges) (by first | exact .head _ | exact .tail _ (.head _) | exact .tail _ (.tail _ (.head _)) | exact .tail _ (.tail _ (.tail _ (.head _))))
 rw [first_eq] at h1
 rw [accept_eq] at h2
 exact utf8Tabs_of_readsT (U8Types.of196 Tryz.lays196) ⟨by kernel_rfl, by kernel_rfl, by kernel_rfl, by kernel_rfl, by kernel_rfl, by kernel_rfl, by kernel_rfl⟩ h1 h2

theorem two_of {cs : Array Value} (h : cs.size = 2) : ∃ a b, cs = #[a, b] := by
 obtain ⟨l⟩ := cs
 match l, h with
 | [a, b], _ => exact ⟨a, b, rfl⟩
theorem five_of {cs : Array Value} (h : cs.size = 5) : ∃ a b c d e, cs = #[a, b, c, d, e] := by
 obtain ⟨l⟩ := cs
 match l, h with
 | [a, b, c, d, e], _ => exact ⟨a, b, c, d, e, rfl⟩
end Go.Proofs.YtempicociampoaaGreatDoor
namespace Go.Proofs.YtempicociampoaaGreatDoor
open Go.RowKit Go.Shelf
attribute [local go_sem] Oper.semAt_some

/-- a line's words -/
def wdsB (s : ByteArray) : List ByteArray := (pcsB 32 s).filter fun w => !(w.size == 0)
theorem wdsB_words (s : ByteArray) : wdsB s = (wordsL s.data.toList).map toB := by
 unfold wdsB wordsL pcsB
 rw [List.filter_map]
 congr 1
 apply List.filter_congr
 intro x _
 cases x <;> simp [toB_size]
theorem Tryz.infoS : (Tryz.prog.info? 9).map (fun i => (i.zero, i.size, i.bytes)) = some (some (.string ⟨#[]⟩), 1, 16) := by kernel_rfl
def encT (s : ByteArray) : List Value := [.string s]
theorem owns_downQ {W : World} {b b' : Nat} {e : TypeId} {size : Nat} {v : Value} {n : Nat} {xs : List Value} (hb : b' ≤ b) (h : W.ownsRow b e size v n xs) : W.ownsRow b' e size v n xs := by
 obtain ⟨h1, h2⟩ := h
 refine ⟨h1, ?_⟩
 rcases h2 with h2 | ⟨g, cap, cur, hv, hg, r⟩
 ·exact .inl h2
 ·exact .inr ⟨g, cap, cur, hv, Nat.le_trans hb hg, r⟩

end Go.Proofs.YtempicociampoaaGreatDoor
namespace Go.Proofs.YtempicociampoaaGreatDoor
open Go.RowKit Go.Shelf Go.Lib
attribute [-go_sem] Go.Lib.run_max_ints Go.Lib.run_min_ints

/-- a paragraph as it lies -/
def parV (v : Value) (wd tol : Int) : Array Value := #[v, .int .i64 wd, .int .i64 tol]
theorem parV_one (p : Option Addr) (m c : Nat) (wd tol : Int) : (parV (.slice p m c) wd tol).all (·.oneCell') = true := all_oneCell_toArray (cs := [.slice p m c, .int .i64 wd, .int .i64 tol]) (fun v h => by
 rcases List.mem_cons.1 h with rfl | h
 ·rfl
 ·rcases List.mem_cons.1 h with rfl | h
  ·rfl
  ·obtain rfl := List.mem_singleton.1 h; rfl)
theorem cut_cases (a : Int) : (¬ 10000 < a ∧ ¬ 0 < a ∧ cutI a 0 10000 = 0) ∨ (¬ 10000 < a ∧ 0 < a ∧ cutI a 0 10000 = a) ∨ (10000 < a ∧ 0 < a ∧ cutI a 0 10000 = 10000) := by
 unfold cutI; omega
/-- a row of three, to be stored -/
structure Sto (w W : World) (n₀ : Nat) : Prop where
 there : W.there (n₀ + 1) 0 3
 here : ∀ (cs : Array Value), cs.size = 3 → (W.setCells (n₀ + 1) 0 cs.toList).heap[n₀ + 1]? = some (.cells cs 82 (0, 0))
 below : ∀ (cs : Array Value), Below n₀ w (W.setCells (n₀ + 1) 0 cs.toList)

set_option maxRecDepth 100000 in
set_option maxHeartbeats 4000000 in
theorem of_any (p : Option Addr) (m cap : Nat) (a b c d e : Int) (w : World) : Calls Tryz.prog 41 #[.slice p m cap, .agg #[.int .i64 a, .int .i64 b, .int .i64 c, .int .i64 d, .int .i64 e]] w fun r w' => r = .returned (.agg (parV (.slice p m cap) (cutI a 0 10000) (cutI c 0 10000))) ∧ Below w.heap.size w w' := by
 obtain ⟨n₀, hn₀⟩ : ∃ n, w.heap.size = n := ⟨_, rfl⟩
 obtain ⟨W2, hW2⟩ : ∃ W : World, W = (w.alloc (.cells #[.int .i64 a, .int .i64 b, .int .i64 c, .int .i64 d, .int .i64 e] 26)).alloc (.cells #[.slice none 0 0, .int .i64 0, .int .i64 0] 82) := ⟨_, rfl⟩
 have hz : (w.alloc (.cells #[.int .i64 a, .int .i64 b, .int .i64 c, .int .i64 d, .int .i64 e] 26)).heap.size = n₀ + 1 := by rw [World.size_alloc, hn₀]
 have s0 : W2.heap[n₀]? = some (.cells #[.int .i64 a, .int .i64 b, .int .i64 c, .int .i64 d, .int .i64 e] 26 (0, 0)) := by
  rw [hW2]
  refine (Kept.alloc 0 _ _).same _ _ ?_ (.inl rfl)
  rw [← hn₀]; exact World.alloc_heap_new w _
 have s1 : W2.heap[n₀ + 1]? = some (.cells #[.slice none 0 0, .int .i64 0, .int .i64 0] 82 (0, 0)) := by rw [hW2, ← hz]; exact World.alloc_heap_new _ _
 have B2 : Below n₀ w W2 := by rw [hW2, ← hn₀]; exact ((Below.refl _ w).alloc (Nat.le_refl _) _).alloc (by simp) _
 have u : Sto w W2 n₀ := ⟨there_blk s1 rfl, fun cs hcs => by
   have h := ((Upd.refl s1).setCells cs.toList (by rw [Array.length_toList, hcs]; rfl)).here
   rwa [Array.toArray_toList] at h, fun cs => by
   have : ∀ (vs : List Value) (o : Nat) (W : World), Below n₀ w W → Below n₀ w (W.setCells (n₀ + 1) o vs) := fun vs => by
    induction vs with
    | nil => intro _ _ h; exact h
    | cons v r ih => intro o W h; exact ih (o + 1) _ (h.setCell (p := ⟨n₀ + 1, o, none⟩) (Nat.le_succ _) v)
   exact this _ _ _ B2⟩
 have c0 : W2.cell? ⟨n₀, 0, none⟩ = some (.int .i64 a) := cell_blk (i := 0) s0 rfl
 have c2 : W2.cell? ⟨n₀, 2, none⟩ = some (.int .i64 c) := cell_blk (i := 2) s0 rfl
 have ht := u.there
 have hi : (Tryz.prog.info? 82).map (·.size) = some 3 := by kernel_rfl
 clear s0 s1 B2 hz
 go_enter Tryz.func41, Tryz.ntmps41
 go_upto_region 1 with (fail)
 rw [← hW2]
 clear hW2
 try simp only [hn₀]
 rcases cut_cases a with ⟨a1, a2, a9⟩ | ⟨a1, a2, a9⟩ | ⟨a1, a2, a9⟩
 ·rcases cut_cases c with ⟨e1, e2, c9⟩ | ⟨e1, e2, c9⟩ | ⟨e1, e2, c9⟩
  ·replace a9 := hid a9
   replace c9 := hid c9
   go_wp2_with (refine wpList_store_mid rfl 82 _ _ rfl (n₀ + 1) 0 (parV (.slice p m cap) 0 0) rfl rfl ht hi (parV_one _ _ _ _ _) ?_)
   exact outRow (ty := 82) rfl (u.here (parV (.slice p m cap) 0 0) rfl) rfl rfl (by kernel_rfl) (by kernel_rfl) ⟨by rw [a9.out, c9.out], hn₀ ▸ u.below (parV (.slice p m cap) 0 0)⟩
  ·replace a9 := hid a9
   replace c9 := hid c9
   go_wp2_with (refine wpList_store_mid rfl 82 _ _ rfl (n₀ + 1) 0 (parV (.slice p m cap) 0 c) rfl rfl ht hi (parV_one _ _ _ _ _) ?_)
   exact outRow (ty := 82) rfl (u.here (parV (.slice p m cap) 0 c) rfl) rfl rfl (by kernel_rfl) (by kernel_rfl) ⟨by rw [a9.out, c9.out], hn₀ ▸ u.below (parV (.slice p m cap) 0 c)⟩
  ·replace a9 := hid a9
   replace c9 := hid c9
   go_wp2_with (refine wpList_store_mid rfl 82 _ _ rfl (n₀ + 1) 0 (parV (.slice p m cap) 0 10000) rfl rfl ht hi (parV_one _ _ _ _ _) ?_)
   exact outRow (ty := 82) rfl (u.here (parV (.slice p m cap) 0 10000) rfl) rfl rfl (by kernel_rfl) (by kernel_rfl) ⟨by rw [a9.out, c9.out], hn₀ ▸ u.below (parV (.slice p m cap) 0 10000)⟩
 ·rcases cut_cases c with ⟨e1, e2, c9⟩ | ⟨e1, e2, c9⟩ | ⟨e1, e2, c9⟩
  ·replace a9 := hid a9
   replace c9 := hid c9
   go_wp2_with (refine wpList_store_mid rfl 82 _ _ rfl (n₀ + 1) 0 (parV (.slice p m cap) a 0) rfl rfl ht hi (parV_one _ _ _ _ _) ?_)
   exact outRow (ty := 82) rfl (u.here (parV (.slice p m cap) a 0) rfl) rfl rfl (by kernel_rfl) (by kernel_rfl) ⟨by rw [a9.out, c9.out], hn₀ ▸ u.below (parV (.slice p m cap) a 0)⟩
  ·replace a9 := hid a9
   replace c9 := hid c9
   go_wp2_with (refine wpList_store_mid rfl 82 _ _ rfl (n₀ + 1) 0 (parV (.slice p m cap) a c) rfl rfl ht hi (parV_one _ _ _ _ _) ?_)
   exact outRow (ty := 82) rfl (u.here (parV (.slice p m cap) a c) rfl) rfl rfl (by kernel_rfl) (by kernel_rfl) ⟨by rw [a9.out, c9.out], hn₀ ▸ u.below (parV (.slice p m cap) a c)⟩
  ·replace a9 := hid a9
   replace c9 := hid c9
   go_wp2_with (refine wpList_store_mid rfl 82 _ _ rfl (n₀ + 1) 0 (parV (.slice p m cap) a 10000) rfl rfl ht hi (parV_one _ _ _ _ _) ?_)
   exact outRow (ty := 82) rfl (u.here (parV (.slice p m cap) a 10000) rfl) rfl rfl (by kernel_rfl) (by kernel_rfl) ⟨by rw [a9.out, c9.out], hn₀ ▸ u.below (parV (.slice p m cap) a 10000)⟩
 ·rcases cut_cases c with ⟨e1, e2, c9⟩ | ⟨e1, e2, c9⟩ | ⟨e1, e2, c9⟩
  ·replace a9 := hid a9
   replace c9 := hid c9
   go_wp2_with (refine wpList_store_mid rfl 82 _ _ rfl (n₀ + 1) 0 (parV (.slice p m cap) 10000 0) rfl rfl ht hi (parV_one _ _ _ _ _) ?_)
   exact outRow (ty := 82) rfl (u.here (parV (.slice p m cap) 10000 0) rfl) rfl rfl (by kernel_rfl) (by kernel_rfl) ⟨by rw [a9.out, c9.out], hn₀ ▸ u.below (parV (.slice p m cap) 10000 0)⟩
  ·replace a9 := hid a9
   replace c9 := hid c9
   go_wp2_with (refine wpList_store_mid rfl 82 _ _ rfl (n₀ + 1) 0 (parV (.slice p m cap) 10000 c) rfl rfl ht hi (parV_one _ _ _ _ _) ?_)
   exact outRow (ty := 82) rfl (u.here (parV (.slice p m cap) 10000 c) rfl) rfl rfl (by kernel_rfl) (by kernel_rfl) ⟨by rw [a9.out, c9.out], hn₀ ▸ u.below (parV (.slice p m cap) 10000 c)⟩
  ·replace a9 := hid a9
   replace c9 := hid c9
   go_wp2_with (refine wpList_store_mid rfl 82 _ _ rfl (n₀ + 1) 0 (parV (.slice p m cap) 10000 10000) rfl rfl ht hi (parV_one _ _ _ _ _) ?_)
   exact outRow (ty := 82) rfl (u.here (parV (.slice p m cap) 10000 10000) rfl) rfl rfl (by kernel_rfl) (by kernel_rfl) ⟨by rw [a9.out, c9.out], hn₀ ▸ u.below (parV (.slice p m cap) 10000 10000)⟩

section
variable {l : List It} {p : Option Addr} {cap : Nat} {wd tol : Int}
/-- the paragraph lies in a box -/
theorem par_box (w : World) (m : Nat) : (w.alloc (.cells (parV (.slice p m cap) wd tol) 82)).heap[w.heap.size]? = some (.cells (parV (.slice p m cap) wd tol) 82 (0, 0)) := World.alloc_heap_new w _
set_option maxRecDepth 100000 in
set_option maxHeartbeats 1000000 in
theorem pen_any (n : Int) (w : World) (hl : Sl w 6 encIt (.slice p l.length cap) l) (_hle : l.length ≤ 5000) (hn : w64 n) :
  Calls Tryz.prog 102 #[.agg (parV (.slice p l.length cap) wd tol), .int .i64 n] w fun e w' => e = .returned (.bool (penAt l n)) ∧ Below w.heap.size w w' := by
 have b1 := par_box (p := p) (cap := cap) (wd := wd) (tol := tol) w l.length
 have B1 : Below w.heap.size w (w.alloc (.cells (parV (.slice p l.length cap) wd tol) 82)) := (Below.refl _ w).alloc (Nat.le_refl _) _
 have s1 := (Kept.alloc 0 w (.cells (parV (.slice p l.length cap) wd tol) 82)).sl hl
 obtain ⟨n₀, hn₀⟩ : ∃ n, w.heap.size = n := ⟨_, rfl⟩
 rw [hn₀] at b1 B1 ⊢
 obtain ⟨W1, hW1⟩ : ∃ W : World, W = w.alloc (.cells (parV (.slice p l.length cap) wd tol) 82) := ⟨_, rfl⟩
 rw [← hW1] at b1 B1 s1
 have c0 : W1.cell? ⟨n₀, 0, none⟩ = some (.slice p l.length cap) := cell_blk (i := 0) b1 rfl
 obtain ⟨L, hL⟩ : ∃ x, l.length = x := ⟨_, rfl⟩
 rw [hL] at c0 hW1 s1 ⊢
 unfold parV at hW1 ⊢
 clear b1 hl
 obtain ⟨r, hr⟩ : ∃ r, penAt l n = r := ⟨_, rfl⟩
 rw [hr]
 unfold penAt at hr
 go_enter Tryz.func102, Tryz.ntmps102
 go_upto_region 1 with (fail)
 rw [← hW1]
 clear hW1
 try simp only [hn₀]
 by_cases h0 : 0 ≤ n
 ·obtain ⟨k, rfl⟩ : ∃ k : Nat, n = k := ⟨n.toNat, by omega⟩
  rw [decide_eq_true h0, Bool.true_and, show ((k : Int)).toNat = k by omega] at hr
  by_cases hk : k < L
  ·have hkI : (k : Int) < (L : Int) := by omega
   have hx : l[k]? = some l[k] := List.getElem?_eq_getElem (by omega)
   obtain ⟨b, o, c9, e9, -, -, h9⟩ := s1.open (by rintro rfl; simp at hx)
   obtain ⟨rfl, -, rfl⟩ := Value.slice.inj e9
   have ck := (item_cells (h9 k _ hx)).1
   unfold isPen at hr
   rw [hx] at hr
   dsimp only at hr
   clear h9 s1 hx e9
   generalize l[k].kind = kd at *
   subst hr
   go_wp2_with (fail)
   go_ret
   exact ⟨rfl, B1⟩
  ·have hkI : ¬ (k : Int) < (L : Int) := by omega
   rw [isPen_end (by omega)] at hr
   subst hr
   go_wp2_with (fail)
   go_ret
   exact ⟨rfl, B1⟩
 ·rw [decide_eq_false h0, Bool.false_and] at hr
  subst hr
  go_wp2_with (fail)
  go_ret
  exact ⟨rfl, B1⟩
set_option maxRecDepth 100000 in
set_option maxHeartbeats 1000000 in
theorem boxed_any (n : Int) (t : Nat) (w : World) (hl : Sl w 6 encIt (.slice p l.length cap) l) (hle : l.length ≤ 5000) (hn : w64 n) :
  Calls Tryz.prog 42 #[.agg (parV (.slice p l.length cap) wd tol), .int .i64 n, .int .i64 t] w fun e w' => e = .returned (.bool (decide (firstL l n < t))) ∧ Below w.heap.size w w' := by
 have b1 := par_box (p := p) (cap := cap) (wd := wd) (tol := tol) w l.length
 have B1 : Below w.heap.size w (w.alloc (.cells (parV (.slice p l.length cap) wd tol) 82)) := (Below.refl _ w).alloc (Nat.le_refl _) _
 have s1 := (Kept.alloc 0 w (.cells (parV (.slice p l.length cap) wd tol) 82)).sl hl
 obtain ⟨n₀, hn₀⟩ : ∃ n, w.heap.size = n := ⟨_, rfl⟩
 rw [hn₀] at b1 B1 ⊢
 obtain ⟨W1, hW1⟩ : ∃ W : World, W = w.alloc (.cells (parV (.slice p l.length cap) wd tol) 82) := ⟨_, rfl⟩
 rw [← hW1] at b1 B1 s1
 have c0 : W1.cell? ⟨n₀, 0, none⟩ = some (.slice p l.length cap) := cell_blk (i := 0) b1 rfl
 obtain ⟨L, hL⟩ : ∃ x, l.length = x := ⟨_, rfl⟩
 rw [hL] at hle c0 hW1 s1 ⊢
 unfold parV at hW1 ⊢
 clear b1 hl
 have cF := hid (First_any (.slice p L cap) l n W1 s1 (by omega) hn)
 obtain ⟨f, hf⟩ : ∃ f, firstL l n = f := ⟨_, rfl⟩
 rw [hf] at cF ⊢
 clear s1 hL hf
 go_enter Tryz.func42, Tryz.ntmps42
 go_upto_region 1 with (fail)
 rw [← hW1]
 clear hW1
 try simp only [hn₀]
 go_wp2_with (fail)
 refine cF.out.mono ?_
 rintro e w2 ⟨rfl, rfl⟩
 go_wp2_with (fail)
 go_ret
 exact ⟨by simp, B1⟩
set_option maxRecDepth 100000 in
set_option maxHeartbeats 1000000 in
theorem cost_any (t : Nat) (w : World) (hl : Sl w 6 encIt (.slice p l.length cap) l) (hle : l.length ≤ 5000) (ht : t ≤ 5000) (hok : ∀ x ∈ l, x.ok) :
  Calls Tryz.prog 101 #[.agg (parV (.slice p l.length cap) wd tol), .int .i64 t] w fun e w' => e = .returned (.int .i64 (costAt l t)) ∧ Below w.heap.size w w' := by
 have b1 := par_box (p := p) (cap := cap) (wd := wd) (tol := tol) w l.length
 have B1 : Below w.heap.size w (w.alloc (.cells (parV (.slice p l.length cap) wd tol) 82)) := (Below.refl _ w).alloc (Nat.le_refl _) _
 have s1 := (Kept.alloc 0 w (.cells (parV (.slice p l.length cap) wd tol) 82)).sl hl
 obtain ⟨n₀, hn₀⟩ : ∃ n, w.heap.size = n := ⟨_, rfl⟩
 rw [hn₀] at b1 B1 ⊢
 obtain ⟨W1, hW1⟩ : ∃ W : World, W = w.alloc (.cells (parV (.slice p l.length cap) wd tol) 82) := ⟨_, rfl⟩
 rw [← hW1] at b1 B1 s1
 have c0 : W1.cell? ⟨n₀, 0, none⟩ = some (.slice p l.length cap) := cell_blk (i := 0) b1 rfl
 have cP := hid (pen_any (wd := wd) (tol := tol) (t : Int) W1 s1 hle ⟨by omega, by omega⟩)
 have hpt : penAt l (t : Int) = isPen l t := by unfold penAt; rw [decide_eq_true (by omega), Bool.true_and, show ((t : Int)).toNat = t by omega]
 rw [hpt] at cP
 obtain ⟨L, hL⟩ : ∃ x, l.length = x := ⟨_, rfl⟩
 rw [hL] at c0 hW1 cP s1 ⊢
 unfold parV at hW1 cP ⊢
 have c1 : W1.cell? ⟨n₀, 1, none⟩ = some (.int .i64 wd) := cell_blk (i := 1) b1 rfl
 have c2 : W1.cell? ⟨n₀, 2, none⟩ = some (.int .i64 tol) := cell_blk (i := 2) b1 rfl
 obtain ⟨r, hr⟩ : ∃ r, costAt l t = r := ⟨_, rfl⟩
 rw [hr]
 have K1 := fun W' (h : Below W1.heap.size W1 W') => (Kept.of_below h 0).same _ _ b1 (.inl rfl)
 have hz1 : n₀ ≤ W1.heap.size := by have := (Array.getElem?_eq_some_iff.1 b1).1; omega
 replace K1 := hid K1
 clear b1 hl
 obtain ⟨ip, hip⟩ : ∃ x, isPen l t = x := ⟨_, rfl⟩
 rw [hip] at cP
 go_enter Tryz.func101, Tryz.ntmps101
 go_upto_region 1 with (fail)
 rw [← hW1]
 clear hW1
 try simp only [hn₀]
 go_wp2_with (fail)
 refine cP.out.mono ?_
 rintro e w2 ⟨rfl, b2⟩
 have B2 := B1.trans (b2.mono hz1)
 have g2 := K1.out _ b2
 have d0 : w2.cell? ⟨n₀, 0, none⟩ = some (.slice p L cap) := by rw [← hL]; exact cell_blk (i := 0) g2 rfl
 have s2 := (Kept.of_below b2 0).sl s1
 clear cP K1 c0 c1 c2 s1 b2 g2
 cases ip with
 | false =>
  have hr0 : r = 0 := by
   rw [← hr]
   unfold costAt
   unfold isPen at hip
   split
   ·rename_i x hx
    rw [hx] at hip
    rw [if_neg (by simpa using hip)]
   ·rfl
  subst hr0
  clear hip hr s2
  go_wp2_with (fail)
  go_ret
  exact ⟨rfl, B2⟩
 | true =>
  have htl : t < l.length := by
   by_cases h : t < l.length
   ·exact h
   ·rw [isPen_end (by omega)] at hip; cases hip
  have hx : l[t]? = some l[t] := List.getElem?_eq_getElem htl
  have htI : (t : Int) < (L : Int) := by omega
  obtain ⟨b, o, c9, e9, -, -, h9⟩ := s2.open (by rintro rfl; simp at hx)
  obtain ⟨rfl, -, rfl⟩ := Value.slice.inj e9
  have ck := (item_cells (h9 t _ hx)).2.2.2.2.1
  have hr0 : plain l[t].cost = r := by
   rw [← hr]
   unfold costAt
   unfold isPen at hip
   rw [hx] at hip ⊢
   dsimp only at hip ⊢
   rw [if_pos (by simpa using hip)]
  have cN := hid (fun W => Plain_any l[t].cost W (hok _ (List.getElem_mem _)).2.2.2.2)
  rw [hr0] at cN
  clear hip hr h9 e9 s2 hr0 hx hok
  generalize l[t].cost = cc at *
  go_wp2_with (fail)
  refine (cN.out _).mono ?_
  rintro e w3 ⟨rfl, rfl⟩
  go_wp2_with (fail)
  go_ret
  exact ⟨rfl, B2⟩
end
end Go.Proofs.YtempicociampoaaGreatDoor
