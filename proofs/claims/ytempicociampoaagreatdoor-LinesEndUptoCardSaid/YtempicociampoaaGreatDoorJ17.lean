/- The walk of chapter 11's tame. Plain laws of texts and their signs; Signs at every text (for seats that hold no writer of texts). MarkupWords: the walk. Widths: the plain law, and the walks of metric.Sign, the reference's in and Sign. The walk of measure.Breaks (printed by gen_lnh.py). -/
import Derived.Test.YtempicociampoaaGreatDoorJ16
import Derived.Test.YtempicociampoaaGreatDoorJ6
import Derived.Test.YtempicociampoaaGreatDoorJ3
import Derived.Test.YtempicociampoaaGreatDoorJ13
import Derived.Test.YtempicociampoaaGreatDoorJ9
import Derived.Test.YtempicociampoaaGreatDoorJ15
import Derived.Test.YtempicociampoaaGreatDoorJ0
import Derived.Test.YtempicociampoaaGreatDoorJ5
import Derived.Test.YtempicociampoaaGreatDoorJ8
namespace Go.Proofs.YtempicociampoaaGreatDoor
open Go.RowKit Go.Shelf Go.Lib
/-- a text's words -/
def textB1 : List ByteArray → Bool
 | [] => false
 | [x] => !(x.toList == [45, 45, 45])
 | x :: _ => !(x.toList == [61]) && !(x.toList == [45])
/-- the kinds' own law -/
def kindB (k : Int) (ws : List ByteArray) : Bool :=
 if k = 4 then ws.isEmpty else if k = 2 ∨ k = 3 then !ws.isEmpty else if k = 1 then textB1 ws else false
def goodB (k : Int) (ws : List ByteArray) : Bool := (ws.all fun x => decide (goodW x.data.toList)) && kindB k ws
theorem empty8 (s : ByteArray) : s.toList.isEmpty = decide (s.data.toList = []) := by
 rw [Lib.toList_data]
 cases s.data.toList <;> simp

def allG (L : List Pt) : Bool := L.all fun x => goodB x.1 x.2.2

theorem wds8 (s : ByteArray) : (wdsB s).map (fun w => w.data.toList) = wordsL s.data.toList := by
 rw [wdsB_words, List.map_map]
 show List.map (fun x => (toB x).data.toList) _ = _
 simp [toB_list]

end Go.Proofs.YtempicociampoaaGreatDoor
namespace Go.Proofs.YtempicociampoaaGreatDoor
open Go.RowKit Go.Shelf

theorem Tabs.below {w w' : World} (h : Tabs w) (hb : Below w.heap.size w w') : Tabs w' := Utf8Tabs_below h hb
theorem Tabs.drewN {w : World} (h : Tabs w) (n : Nat) : Tabs (w.drewN n) := h.below ((Below.refl _ w).drewN n)
theorem Tabs.alloc {w : World} (h : Tabs w) (o : Obj) : Tabs (w.alloc o) := h.below ((Below.refl _ w).alloc (Nat.le_refl _) o)

theorem Signs_any (s : ByteArray) (w : World) (hs : s.size ≤ 2000000) (hT : Tabs w) :
  Calls Tryz.prog 73 #[.string s] w fun e w' => ∃ v, e = .returned v ∧ Sl w' 1 encI v (sgn s.data.toList) ∧ Below w.heap.size w w' := by
 cases hv : Lib.validD s.data.toList with
 | false =>
  refine (Signs_no s w (by omega) hT hv).mono fun e w' ⟨he, hB⟩ => ⟨_, he, ?_, hB⟩
  rw [sgn_no hv]; exact .inl ⟨rfl, rfl⟩
 | true =>
  obtain ⟨h1, h2⟩ := sgn_yes hv
  exact Signs_yes s w hs hT _ h1 h2

theorem sgn_len (s : ByteArray) : (sgn s.data.toList).length ≤ s.size := by
 cases hv : Lib.validD s.data.toList with
 | false => rw [sgn_no hv]; exact Nat.zero_le _
 | true =>
  obtain ⟨h1, h2⟩ := sgn_yes hv
  have := len_txt h1
  rw [← h2] at this
  exact this
theorem sgn_rng (t : List UInt8) : ∀ x ∈ sgn t, -9223372036854775808 ≤ x ∧ x ≤ 9223372036854775807 := by
 cases hv : Lib.validD t with
 | false => rw [sgn_no hv]; intro x hx; cases hx
 | true =>
  intro x hx
  obtain ⟨a, b, -⟩ := (sgn_yes hv).1 x hx
  omega
end Go.Proofs.YtempicociampoaaGreatDoor
namespace Go.Proofs.YtempicociampoaaGreatDoor
open Go.RowKit Go.Shelf Go.Lib

end Go.Proofs.YtempicociampoaaGreatDoor
namespace Go.Proofs.YtempicociampoaaGreatDoor
open Go.RowKit Go.Shelf

def memb (l : List UInt8) (v : Int) : Bool := l.any fun b => (b.toNat : Int) == v
def narrowL : List UInt8 := [105, 106, 108, 46, 44, 59, 58, 33, 124, 39]
def slimL : List UInt8 := [102, 116, 114, 40, 41, 91, 93, 45, 34]
def wideL : List UInt8 := [109, 119, 77, 87, 64]
/-- how wide a sign is -/
def width (v : Int) : Int := if memb narrowL v then 3 else if memb slimL v then 4 else if memb wideL v then 9 else if 65 ≤ v ∧ v ≤ 90 then 7 else if 33 ≤ v ∧ v ≤ 126 then 6 else 10

theorem memb_range {l : List UInt8} (hl : ∀ b ∈ l, 33 ≤ b.toNat ∧ b.toNat ≤ 126) {v : Int} (h : v < 33 ∨ 126 < v) : memb l v = false := by
 unfold memb
 rw [List.any_eq_false]
 intro b hb
 have := hl b hb
 simp; omega
theorem width_out {v : Int} (h : v < 33 ∨ 126 < v) : width v = 10 := by
 unfold width
 rw [memb_range (by decide) h, memb_range (by decide) h, memb_range (by decide) h]
 simp; omega
theorem width_bd (v : Int) : 3 ≤ width v ∧ width v ≤ 10 := by
 unfold width
 repeat (first | split | omega)
theorem ib (l : List UInt8) (v : Int) (h0 : 0 ≤ v) (h1 : v ≤ 255) : -1 ≤ Lib.indexByte l v.toNat.toUInt8 ∧ (0 ≤ Lib.indexByte l v.toNat.toUInt8 ↔ memb l v = true) := by
 induction l with
 | nil => exact ⟨by simp [Lib.indexByte], by simp [Lib.indexByte, memb]⟩
 | cons b l ih =>
  obtain ⟨i1, i2⟩ := ih
  have hb := b8 h0 h1
  have he : (b == v.toNat.toUInt8) = ((b.toNat : Int) == v) := by
   rw [Bool.eq_iff_iff]
   simp only [beq_iff_eq]
   constructor
   ·intro h; rw [h, hb]; omega
   ·intro h; apply UInt8.toNat_inj.1; rw [hb]; omega
  unfold Lib.indexByte
  rw [he]
  show _ ∧ (_ ↔ (((b.toNat : Int) == v) || memb l v) = true)
  cases hq : ((b.toNat : Int) == v) with
  | true => simp
  | false =>
   simp only [Bool.false_or]
   rw [← i2]
   generalize Lib.indexByte l v.toNat.toUInt8 = q at *
   by_cases hm : q = -1
   ·simp [hm]
   ·have : (q == -1) = false := by simpa using hm
    rw [this]
    simp; omega

set_option maxRecDepth 100000 in
set_option maxHeartbeats 2000000 in
theorem Sign_any (v : Int) (w : World) (z1 : -9223372036854775808 ≤ v) (z2 : v ≤ 9223372036854775807) :
  Calls Tryz.prog 74 #[.int .i64 v] w fun e w' => e = .returned (.int .i64 (width v)) ∧ w' = w := by
 by_cases ho : v < 33 ∨ 126 < v
 ·have hw := hid (width_out ho)
  have hc : v < 33 ∨ 33 ≤ v ∧ 126 < v := by omega
  clear ho
  rcases hc with x1 | ⟨x1, x2⟩
  all_goals
   go_enter Tryz.func74, Tryz.ntmps74
   go_wp2
   go_ret
   exact ⟨by rw [Hid.out hw]; rfl, rfl⟩
 ·have x1 : 33 ≤ v := by omega
  have x2 : v ≤ 126 := by omega
  clear ho
  obtain ⟨a1, a2⟩ := ib narrowL v (by omega) (by omega)
  obtain ⟨b1, b2⟩ := ib slimL v (by omega) (by omega)
  obtain ⟨c1, c2⟩ := ib wideL v (by omega) (by omega)
  have cN := Tryz.strings_IndexByte ⟨#[105, 106, 108, 46, 44, 59, 58, 33, 124, 39]⟩ v w
  have cS := Tryz.strings_IndexByte ⟨#[102, 116, 114, 40, 41, 91, 93, 45, 34]⟩ v w
  have cM := Tryz.strings_IndexByte ⟨#[109, 119, 77, 87, 64]⟩ v w
  change Calls _ _ _ _ (fun e w' => e = .returned (.int .i64 (Lib.indexByte narrowL v.toNat.toUInt8)) ∧ w' = w) at cN
  change Calls _ _ _ _ (fun e w' => e = .returned (.int .i64 (Lib.indexByte slimL v.toNat.toUInt8)) ∧ w' = w) at cS
  change Calls _ _ _ _ (fun e w' => e = .returned (.int .i64 (Lib.indexByte wideL v.toNat.toUInt8)) ∧ w' = w) at cM
  have hwd : width v = if memb narrowL v then 3 else if memb slimL v then 4 else if memb wideL v then 9 else if 65 ≤ v ∧ v ≤ 90 then 7 else 6 := by
   unfold width; rw [if_pos (show 33 ≤ v ∧ v ≤ 126 from ⟨x1, x2⟩)]
  generalize Lib.indexByte narrowL v.toNat.toUInt8 = i1 at *
  generalize Lib.indexByte slimL v.toNat.toUInt8 = i2 at *
  generalize Lib.indexByte wideL v.toNat.toUInt8 = i3 at *
  have hcs : (0 ≤ i1 ∧ width v = 3) ∨ (i1 < 0 ∧ 0 ≤ i2 ∧ width v = 4) ∨ (i1 < 0 ∧ i2 < 0 ∧ 0 ≤ i3 ∧ width v = 9) ∨ (i1 < 0 ∧ i2 < 0 ∧ i3 < 0 ∧ 65 ≤ v ∧ v ≤ 90 ∧ width v = 7) ∨ (i1 < 0 ∧ i2 < 0 ∧ i3 < 0 ∧ v < 65 ∧ width v = 6) ∨ (i1 < 0 ∧ i2 < 0 ∧ i3 < 0 ∧ 65 ≤ v ∧ 90 < v ∧ width v = 6) := by
   by_cases p1 : 0 ≤ i1
   ·exact .inl ⟨p1, by rw [hwd, if_pos (a2.1 p1)]⟩
   rw [if_neg (fun h => p1 (a2.2 h))] at hwd
   by_cases p2 : 0 ≤ i2
   ·exact .inr (.inl ⟨by omega, p2, by rw [hwd, if_pos (b2.1 p2)]⟩)
   rw [if_neg (fun h => p2 (b2.2 h))] at hwd
   by_cases p3 : 0 ≤ i3
   ·exact .inr (.inr (.inl ⟨by omega, by omega, p3, by rw [hwd, if_pos (c2.1 p3)]⟩))
   rw [if_neg (fun h => p3 (c2.2 h))] at hwd
   by_cases p4 : 65 ≤ v ∧ v ≤ 90
   ·rw [if_pos p4] at hwd
    exact .inr (.inr (.inr (.inl ⟨by omega, by omega, by omega, p4.1, p4.2, hwd⟩)))
   ·rw [if_neg p4] at hwd
    by_cases p5 : v < 65
    ·exact .inr (.inr (.inr (.inr (.inl ⟨by omega, by omega, by omega, p5, hwd⟩))))
    ·exact .inr (.inr (.inr (.inr (.inr ⟨by omega, by omega, by omega, by omega, by omega, hwd⟩))))
  clear a1 a2 b1 b2 c1 c2 hwd
  rcases hcs with ⟨p1, hw⟩ | ⟨p1, p2, hw⟩ | ⟨p1, p2, p3, hw⟩ | ⟨p1, p2, p3, p4, p5, hw⟩ | ⟨p1, p2, p3, p4, hw⟩ | ⟨p1, p2, p3, p4, p5, hw⟩
  all_goals
   replace hw := hid hw
   go_enter Tryz.func74, Tryz.ntmps74
   go_wp2_with (fail)
   refine cN.mono ?_
   rintro e w' ⟨rfl, rfl⟩
   try
    go_wp2_with (fail)
    refine cS.mono ?_
    rintro e w' ⟨rfl, rfl⟩
   try
    go_wp2_with (fail)
    refine cM.mono ?_
    rintro e w' ⟨rfl, rfl⟩
   go_wp2
   go_ret
   exact ⟨by rw [Hid.out hw]; rfl, rfl⟩
end Go.Proofs.YtempicociampoaaGreatDoor
namespace Go.Proofs.YtempicociampoaaGreatDoor
open Go.RowKit Go.Shelf Go.Lib

theorem item_one (x : It) : ((encIt x).toArray).all (·.oneCell') = true := all_oneCell_toArray (fun v h => by
 unfold encIt at h
 simp only [List.mem_cons, List.not_mem_nil, or_false] at h
 rcases h with rfl | rfl | rfl | rfl | rfl | rfl <;> rfl)
set_option maxRecDepth 100000 in
set_option maxHeartbeats 8000000 in
theorem MBreaks_any (l : List It) (p : Option Addr) (cap : Nat) (w : World) (hl : Sl w 6 encIt (.slice p l.length cap) l) (hle : l.length ≤ 5000) (hok : ∀ x ∈ l, x.ok) :
  Calls Tryz.prog 67 #[.slice p l.length cap] w fun e w' => ∃ v, e = .returned v ∧ w'.ownsRow w.heap.size 3 1 v (brk l).length ((brk l).flatMap encI) ∧ Below w.heap.size w w' := by
 obtain ⟨i0, hi, hz0, hz1, hz2⟩ := infoN_parts
 have hbe : brk l = brks l l.length ++ [(l.length : Int)] := rfl
 have hsB := hid (fun (W : World) (h : Below w.heap.size w W) => (Kept.of_below h 0).sl hl)
 obtain ⟨L, hL⟩ : ∃ y, l.length = y := ⟨_, rfl⟩
 rw [hL] at hsB hbe hle ⊢
 replace hL := hid hL
 clear hl
 go_enter Tryz.func67, Tryz.ntmps67
 go_wp2_with (fail)
 go_loopw [3, 8] (fun ov iv wr => ∃ k : Nat, k ≤ L ∧ iv = .int .i64 k ∧ wr.ownsRow w.heap.size 3 1 ov (brks l k).length ((brks l k).flatMap encI) ∧ Below w.heap.size w wr) (fun _ iv _ => L - (RowKit.intOf iv).toNat)
 case atStart => exact ⟨0, Nat.zero_le _, rfl, World.ownsRow_nil _ _ _ _, Below.refl _ _⟩
 case round =>
  obtain ⟨k, hk, rfl, oW, qB⟩ := hrel
  obtain ⟨pv, cv, rfl, hv1, hv2⟩ := owns_shape oW
  have hbl := brks_len l k
  by_cases hkl : k < L
  ·have hkI : (k : Int) < (L : Int) := by omega
   obtain ⟨x, hx⟩ : ∃ x, l[k]? = some x := ⟨_, List.getElem?_eq_getElem (by rw [hL.out]; exact hkl)⟩
   obtain ⟨b, o, c9, e9, -, -, h9⟩ := (hsB.out _ qB).open (by rintro rfl; simp at hx)
   obtain ⟨rfl, -, rfl⟩ := Value.slice.inj e9
   have hr := h9 k x hx
   have hxo := (hok x (List.mem_of_getElem? hx)).2.2.1
   obtain ⟨ne, hne⟩ : ∃ n, wr.heap.size = n := ⟨_, rfl⟩
   have g1 := World.alloc_heap_new wr (.cells #[.int .i64 0, .int .i64 0, .int .i64 0, .int .i64 0, .int .i64 0, .string ⟨#[]⟩] 49)
   rw [hne] at g1
   have ht1 : (wr.alloc (.cells #[.int .i64 0, .int .i64 0, .int .i64 0, .int .i64 0, .int .i64 0, .string ⟨#[]⟩] 49)).there ne 0 ((encIt x).toArray).size := there_blk g1 rfl
   have u1 := (Upd.refl g1).setCells ((encIt x).toArray).toList rfl
   have o4 := upd_own2 u1 (own_ty2 ((Kept.alloc 0 wr (.cells #[.int .i64 0, .int .i64 0, .int .i64 0, .int .i64 0, .int .i64 0, .string ⟨#[]⟩] 49)).owns oW) g1 (by decide)) ((Kept.alloc 0 wr (.cells #[.int .i64 0, .int .i64 0, .int .i64 0, .int .i64 0, .int .i64 0, .string ⟨#[]⟩] 49)).owns oW)
   have B4 := u1.below (qB.alloc qB.size (.cells #[.int .i64 0, .int .i64 0, .int .i64 0, .int .i64 0, .int .i64 0, .string ⟨#[]⟩] 49)) (by have := qB.size; omega)
   have g4 := u1.here
   rw [Array.toArray_toList] at g4
   have hi6 : (Tryz.prog.info? 49).map (·.size) = some (encIt x).length := by kernel_rfl
   have hi7 : (Tryz.prog.info? 49).map (·.size) = some ((encIt x).toArray).size := by kernel_rfl
   have hat : brkAt l k = (x.kind == 3 || (x.kind == 2 && decide (0 < plain x.y) && decide (0 < k) && (match l[k - 1]? with | some y => y.kind == 1 | none => false))) := by
    unfold brkAt; rw [hx]; rfl
   have cN := hid (fun W => Plain_any x.y W hxo)
   clear u1 g1 oW qB h9 e9
   go_upto_region 5 with (first | refine wpList_load_mid rfl 49 _ rfl b (o + k * 6) rfl (encIt x) _ hr Tryz.underlying49 rfl hi6 ?_ | refine wpList_store_mid rfl 49 _ _ rfl ne 0 ((encIt x).toArray) rfl rfl ht1 hi7 (item_one _) ?_)
   try simp only [Act.put]
   obtain ⟨W4, hW4⟩ : ∃ W : World, W = (wr.alloc (.cells #[.int .i64 0, .int .i64 0, .int .i64 0, .int .i64 0, .int .i64 0, .string ⟨#[]⟩] 49)).setCells ne 0 ((encIt x).toArray).toList := ⟨_, rfl⟩
   rw [← hW4] at g4 o4 B4 ⊢
   clear hW4 ht1 hr
   have ck : W4.cell? ⟨ne, 0, none⟩ = some (.int .i64 x.kind) := cell_blk (i := 0) g4 rfl
   have cy : W4.cell? ⟨ne, 2, none⟩ = some (.int .i64 x.y) := cell_blk (i := 2) g4 rfl
   have hhit := fun h => @brks_hit l k h
   have hmiss := fun h => @brks_miss l k h
   obtain ⟨py, hpy⟩ : ∃ y, plain x.y = y := ⟨_, rfl⟩
   obtain ⟨kd, hkd⟩ : ∃ y, x.kind = y := ⟨_, rfl⟩
   obtain ⟨mm, hmm⟩ : ∃ y, (match l[k - 1]? with | some y => y.kind == 1 | none => false) = y := ⟨_, rfl⟩
   rw [hpy] at cN
   rw [hpy, hkd, hmm] at hat
   rw [hkd] at ck
   clear hpy hkd g4
   by_cases c3 : kd = 3
   ·subst c3
    have hq := hhit (by rw [hat]; simp)
    clear hat hhit hmiss hmm
    replace hq := hid hq
    go_wp2_with (at_builtin; go_must (refine wpList_append_sl rfl _ _ 50 rfl w.heap.size 3 i0 (.int .i64 0) 1 8 Tryz.underlying50 hi hz0 hz1 hz2 rfl (by decide) _ _ _ rfl ((Kept.alloc 0 W4 _).owns o4) encI _ [(k : Int)] rfl (sl_i1 (World.alloc_heap_new W4 _)) (encI_enc _) (by unfold maxLen; simp only [List.length_singleton]; omega) (by simp only [List.length_singleton]; omega) (by have := B4.size; rw [World.size_alloc]; omega) ?_; intro v9 w9 o9 hg9 n9))
    have B9 := (B4.alloc B4.size (.cells #[.int .i64 (k : Int)] 3)).grown hg9 (by have := B4.size; rw [World.size_alloc]; omega) (fun j e9 => own_base2 ((Kept.alloc 0 W4 (.cells #[.int .i64 (k : Int)] 3)).owns o4) e9)
    have o10 : w9.ownsRow w.heap.size 3 1 v9 (brks l (k + 1)).length ((brks l (k + 1)).flatMap encI) := by rw [hq.out, List.length_append, List.flatMap_append]; exact o9
    replace o10 := hid o10
    replace B9 := hid B9
    refine ⟨?_, ?_⟩
    ·first | exact ⟨k + 1, by omega, by go_num, o10.out, B9.out⟩ | ((repeat apply Exists.intro); refine ⟨?_, rfl⟩; exact ⟨k + 1, by omega, by go_num, o10.out, B9.out⟩)
    ·simp [RowKit.intOf]; omega
   ·have c3b : (kd == 3) = false := by simpa using c3
    by_cases c2 : kd = 2
    ·subst c2
     by_cases cp : 0 < py
     ·by_cases c0 : 0 < k
      ·have k0I : (0 : Int) < (k : Int) := by omega
       obtain ⟨j, hj⟩ : ∃ j, k - 1 = j := ⟨_, rfl⟩
       have hkw : IntKind.i64.wrap ((k : Int) - 1) = (j : Int) := by rw [IntKind.wrap_i64]; omega
       have hjL : (j : Int) < (L : Int) := by omega
       obtain ⟨z, hz⟩ : ∃ z, l[j]? = some z := ⟨_, List.getElem?_eq_getElem (by rw [hL.out]; omega)⟩
       obtain ⟨b', o', c', e', -, -, h'⟩ := (hsB.out _ B4).open (by rintro rfl; simp at hz)
       obtain ⟨h1', -, -⟩ := Value.slice.inj e'
       obtain ⟨rfl, rfl, -⟩ := Addr.mk.inj (Option.some.inj h1')
       have cz := (item_cells (h' j z hz)).1
       have hm2 : (z.kind == 1) = mm := by rw [← hmm, hj, hz]
       clear h' e' h1' hmm hz
       generalize z.kind = zk at *
       by_cases c1 : zk = 1
       ·subst c1
        have hq := hhit (by rw [hat, ← hm2]; simp [cp, c0])
        clear hat hhit hmiss hm2
        replace hj := hid hj
        replace hq := hid hq
        go_wp2_with (fail)
        refine (cN.out _).mono ?_
        rintro e W4' ⟨rfl, rfl⟩
        go_wp2_with (at_builtin; go_must (refine wpList_append_sl rfl _ _ 50 rfl w.heap.size 3 i0 (.int .i64 0) 1 8 Tryz.underlying50 hi hz0 hz1 hz2 rfl (by decide) _ _ _ rfl ((Kept.alloc 0 W4 _).owns o4) encI _ [(k : Int)] rfl (sl_i1 (World.alloc_heap_new W4 _)) (encI_enc _) (by unfold maxLen; simp only [List.length_singleton]; omega) (by simp only [List.length_singleton]; omega) (by have := B4.size; rw [World.size_alloc]; omega) ?_; intro v9 w9 o9 hg9 n9))
        have B9 := (B4.alloc B4.size (.cells #[.int .i64 (k : Int)] 3)).grown hg9 (by have := B4.size; rw [World.size_alloc]; omega) (fun j e9 => own_base2 ((Kept.alloc 0 W4 (.cells #[.int .i64 (k : Int)] 3)).owns o4) e9)
        have o10 : w9.ownsRow w.heap.size 3 1 v9 (brks l (k + 1)).length ((brks l (k + 1)).flatMap encI) := by rw [hq.out, List.length_append, List.flatMap_append]; exact o9
        replace o10 := hid o10
        replace B9 := hid B9
        refine ⟨?_, ?_⟩
        ·first | exact ⟨k + 1, by omega, by go_num, o10.out, B9.out⟩ | ((repeat apply Exists.intro); refine ⟨?_, rfl⟩; exact ⟨k + 1, by omega, by go_num, o10.out, B9.out⟩)
        ·simp [RowKit.intOf]; omega
       ·have c1b : (zk == 1) = false := by simpa using c1
        have hq := hmiss (by rw [hat, ← hm2, c1b]; simp)
        clear hat hhit hmiss hm2
        replace hj := hid hj
        have o10 : W4.ownsRow w.heap.size 3 1 (.slice pv (brks l k).length cv) (brks l (k + 1)).length ((brks l (k + 1)).flatMap encI) := by rw [hq]; exact o4
        replace o10 := hid o10
        go_wp2_with (fail)
        refine (cN.out _).mono ?_
        rintro e W4' ⟨rfl, rfl⟩
        go_wp2_with (fail)
        refine ⟨?_, ?_⟩
        ·first | exact ⟨k + 1, by omega, by go_num, o10.out, B4⟩ | ((repeat apply Exists.intro); refine ⟨?_, rfl⟩; exact ⟨k + 1, by omega, by go_num, o10.out, B4⟩)
        ·simp [RowKit.intOf]; omega
      ·have k0I : ¬ (0 : Int) < (k : Int) := by omega
       have hq := hmiss (by rw [hat, decide_eq_false c0]; simp)
       clear hat hhit hmiss hmm
       have o10 : W4.ownsRow w.heap.size 3 1 (.slice pv (brks l k).length cv) (brks l (k + 1)).length ((brks l (k + 1)).flatMap encI) := by rw [hq]; exact o4
       replace o10 := hid o10
       go_wp2_with (fail)
       refine (cN.out _).mono ?_
       rintro e W4' ⟨rfl, rfl⟩
       go_wp2_with (fail)
       refine ⟨?_, ?_⟩
       ·first | exact ⟨k + 1, by omega, by go_num, o10.out, B4⟩ | ((repeat apply Exists.intro); refine ⟨?_, rfl⟩; exact ⟨k + 1, by omega, by go_num, o10.out, B4⟩)
       ·simp [RowKit.intOf]; omega
     ·have hq := hmiss (by rw [hat, decide_eq_false cp]; simp)
      clear hat hhit hmiss hmm
      have o10 : W4.ownsRow w.heap.size 3 1 (.slice pv (brks l k).length cv) (brks l (k + 1)).length ((brks l (k + 1)).flatMap encI) := by rw [hq]; exact o4
      replace o10 := hid o10
      go_wp2_with (fail)
      refine (cN.out _).mono ?_
      rintro e W4' ⟨rfl, rfl⟩
      go_wp2_with (fail)
      refine ⟨?_, ?_⟩
      ·first | exact ⟨k + 1, by omega, by go_num, o10.out, B4⟩ | ((repeat apply Exists.intro); refine ⟨?_, rfl⟩; exact ⟨k + 1, by omega, by go_num, o10.out, B4⟩)
      ·simp [RowKit.intOf]; omega
    ·have c2b : (kd == 2) = false := by simpa using c2
     have hq := hmiss (by rw [hat, c3b, c2b]; simp)
     clear hat hhit hmiss hmm
     have o10 : W4.ownsRow w.heap.size 3 1 (.slice pv (brks l k).length cv) (brks l (k + 1)).length ((brks l (k + 1)).flatMap encI) := by rw [hq]; exact o4
     replace o10 := hid o10
     go_wp2_with (fail)
     refine ⟨?_, ?_⟩
     ·first | exact ⟨k + 1, by omega, by go_num, o10.out, B4⟩ | ((repeat apply Exists.intro); refine ⟨?_, rfl⟩; exact ⟨k + 1, by omega, by go_num, o10.out, B4⟩)
     ·simp [RowKit.intOf]; omega
  ·obtain rfl : k = L := by omega
   go_wp2_with (at_builtin; go_must (refine wpList_append_sl rfl _ _ 50 rfl w.heap.size 3 i0 (.int .i64 0) 1 8 Tryz.underlying50 hi hz0 hz1 hz2 rfl (by decide) _ _ _ rfl ((Kept.alloc 0 wr _).owns oW) encI _ [(k : Int)] rfl (sl_i1 (World.alloc_heap_new wr _)) (encI_enc _) (by unfold maxLen; simp only [List.length_singleton]; omega) (by simp only [List.length_singleton]; omega) (by have := qB.size; rw [World.size_alloc]; omega) ?_; intro v9 w9 o9 hg9 n9))
   go_ret
   exact ⟨v9, rfl, by rw [hbe, List.length_append, List.flatMap_append]; exact o9, (qB.alloc qB.size (.cells #[.int .i64 (k : Int)] 3)).grown hg9 (by have := qB.size; rw [World.size_alloc]; omega) (fun j e9 => own_base2 ((Kept.alloc 0 wr (.cells #[.int .i64 (k : Int)] 3)).owns oW) e9)⟩
end Go.Proofs.YtempicociampoaaGreatDoor
