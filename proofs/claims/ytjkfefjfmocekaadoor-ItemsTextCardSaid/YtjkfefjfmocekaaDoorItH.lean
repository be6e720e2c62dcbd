/- The walk of items.Text. -/
import Derived.Test.YtjkfefjfmocekaaDoorItG
namespace Go.Proofs.YtjkfefjfmocekaaDoor
open Go.RowKit Go.Shelf

/-- what one item says -/
def textOf (x : It) : List UInt8 := if x.kind = 1 then x.text.data.toList else if x.kind = 2 then [32] else []
/-- the text of items -/
def textB (l : List It) : List UInt8 := l.flatMap textOf
theorem textB_append (a b : List It) : textB (a ++ b) = textB a ++ textB b := by simp [textB]
theorem textB_take (l : List It) (k : Nat) : (textB (l.take k)).length ≤ (textB l).length := by
  have h := congrArg (fun x => (textB x).length) (List.take_append_drop k l)
  simp only [textB_append, List.length_append] at h
  omega
theorem byteCells_app (a b : List UInt8) : Lib.byteCells (a ++ b) = Lib.byteCells a ++ Lib.byteCells b := by simp [Lib.byteCells]

set_option maxRecDepth 100000 in
set_option maxHeartbeats 4000000 in
theorem IText_any (v : Value) (l : List It) (w : World) (hsl : Sl w 6 encIt v l) (hn : (textB l).length ≤ 1000000) :
    Calls Tryd.prog 8 #[v] w fun e w' => e = .returned (.string ⟨(textB l).toArray⟩) ∧ Below w.heap.size w w' := by
  obtain ⟨p, cap, rfl, hmx⟩ := hsl.shape
  unfold maxLen at hmx
  go_enter Tryd.func8, Tryd.ntmps8
  go_wp2_with (fail)
  have hb0 : (w.alloc (.cells #[.pointer none, .slice none 0 0] 48)).heap[w.heap.size]? = some (.cells #[.pointer none, .slice none 0 0] 48 (0, 0)) := World.alloc_heap_new w _
  have hbs : Lib.IsBuilderF 48 5 w.heap.size w.heap.size (Lib.byteCells (textB [])) (w.alloc (.cells #[.pointer none, .slice none 0 0] 48)) :=
    .inl ⟨Nat.le_refl _, _, hb0, World.ownsRowF_of (World.ownsRow_nil _ _ _ _), by simp [Value.ownBlock]⟩
  go_loopw [8] (fun i wr => ∃ k : Nat, k ≤ l.length ∧ i = .int .i64 k ∧ Lib.IsBuilderF 48 5 w.heap.size w.heap.size (Lib.byteCells (textB (l.take k))) wr ∧ Below w.heap.size w wr) (fun i _ => l.length - (RowKit.intOf i).toNat)
  case atStart => exact ⟨0, Nat.zero_le _, rfl, hbs, (Below.refl _ _).alloc (Nat.le_refl _) _⟩
  case round =>
    obtain ⟨k, hk, rfl, hbu, hB⟩ := hrel
    have hzr := hB.size
    by_cases hkl : k < l.length
    · have hkI : (k : Int) < (l.length : Int) := by omega
      obtain ⟨nb, no, cap', he, h1, h2, h3⟩ := hsl.open (by rintro rfl; simp at hkl)
      simp only [Value.slice.injEq] at he
      obtain ⟨rfl, -, rfl⟩ := he
      have hkp := (Kept.of_below hB 0).range (h3 k l[k] (List.getElem?_eq_getElem hkl))
      obtain ⟨x0, x1, x2, x3, x4, x5⟩ := it_cells hkp
      have htk : textB (l.take (k + 1)) = textB (l.take k) ++ textOf l[k] := by rw [List.take_succ_eq_append_getElem hkl, textB_append]; simp [textB]
      have hlt := textB_take l (k + 1)
      rw [htk, List.length_append] at hlt
      have hto : textOf l[k] = if l[k].kind = 1 then l[k].text.data.toList else if l[k].kind = 2 then [32] else [] := rfl
      generalize l[k].kind = kd at *
      generalize l[k].w = a1 at *
      generalize l[k].y = a2 at *
      generalize l[k].z = a3 at *
      generalize l[k].cost = a4 at *
      generalize l[k].text = T at *
      generalize textOf l[k] = TO at *
      generalize textB (l.take k) = TB at *
      have hbu2 := hbu.alloc (.cells #[.int .i64 kd, .int .i64 a1, .int .i64 a2, .int .i64 a3, .int .i64 a4, .string T] 34)
      have hB2 := hB.alloc hzr (.cells #[.int .i64 kd, .int .i64 a1, .int .i64 a2, .int .i64 a3, .int .i64 a4, .string T] 34)
      have hlen : (Lib.byteCells TB).length = TB.length := by simp [Lib.byteCells]
      replace htk := hid htk
      replace hto := hid hto
      clear h3 hkp
      by_cases k1 : kd = 1
      · subst k1
        have hto2 : TO = T.data.toList := by rw [hto.out, if_pos rfl]
        subst hto2
        rw [size_toList] at hlt
        go_wp2_with (fail)
        refine (WriteString_any w.heap.size w.heap.size _ T _ hbu2 (by omega) hB2.size).mono ?_
        rintro e w5 ⟨rfl, hb5, b5⟩
        go_wp2_with (fail)
        refine ⟨⟨k + 1, by omega, by go_num, ?_, hB2.trans b5⟩, by simp [RowKit.intOf]; omega⟩
        rw [htk.out, byteCells_app]
        exact .inr hb5
      · by_cases k2 : kd = 2
        · subst k2
          have hto2 : TO = [32] := by rw [hto.out, if_neg (by omega), if_pos rfl]
          subst hto2
          go_wp2_with (fail)
          refine (WriteByte_any w.heap.size w.heap.size _ 32 _ hbu2 (by simp at hlt; omega) hB2.size).mono ?_
          rintro e w5 ⟨rfl, hb5, b5⟩
          go_wp2_with (fail)
          refine ⟨⟨k + 1, by omega, by go_num, ?_, hB2.trans b5⟩, by simp [RowKit.intOf]; omega⟩
          rw [htk.out, byteCells_app]
          exact .inr hb5
        · have hto2 : TO = [] := by rw [hto.out, if_neg k1, if_neg k2]
          subst hto2
          go_wp2_with (fail)
          refine ⟨⟨k + 1, by omega, by go_num, ?_, hB2⟩, by simp [RowKit.intOf]; omega⟩
          rw [htk.out, List.append_nil]
          exact hbu2
    · obtain rfl : k = l.length := by omega
      rw [List.take_length] at hbu
      have hst := Tryd.Builder_String_any_k w.heap.size w.heap.size (textB l) wr hbu hB.size
      obtain ⟨S, hS⟩ : ∃ S : ByteArray, (⟨(textB l).toArray⟩ : ByteArray) = S := ⟨_, rfl⟩
      rw [hS] at hst
      replace hS := hid hS
      clear hbu hsl
      go_wp2_with (fail)
      refine hst.mono ?_
      rintro e w' ⟨rfl, -, hbel, -⟩
      go_wp2
      go_ret
      exact ⟨by rw [hS.out]; rfl, hB.trans hbel⟩
end Go.Proofs.YtjkfefjfmocekaaDoor
