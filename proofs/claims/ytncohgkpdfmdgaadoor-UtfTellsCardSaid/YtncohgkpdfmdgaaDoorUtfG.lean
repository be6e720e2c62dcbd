/- The walk of utf.Text. -/
import Derived.Test.YtncohgkpdfmdgaaDoorUtfF
import Derived.Deep.CutBlock
namespace Go.Proofs.YtncohgkpdfmdgaaDoor
open Go.RowKit Go.Shelf

theorem txt_le : ∀ {ys : List Int}, (∀ y ∈ ys, okv y) → (txt ys).length ≤ 4 * ys.length
  | [], _ => Nat.le_refl _
  | y :: ys, h => by
    have h1 := txt_le (fun z hz => h z (by simp [hz]) : ∀ z ∈ ys, okv z)
    have h2 := (enc_len (h y (by simp))).2
    rw [txt_cons, List.length_append, List.length_cons]
    omega
theorem byteCells_snoc (a : List Int) (x : Int) : Lib.byteCells (txt (a ++ [x])) = Lib.byteCells (txt a) ++ Lib.runeCells x := by
  rw [txt_append, ← Lib.byteCells_encodeRune]
  simp [Lib.byteCells, txt]

/-- what utf.Text answers -/
def textOut (l : List Int) : Array Value := if ∀ x ∈ l, okv x then #[.string ⟨(txt l).toArray⟩, .int .i64 0] else #[.string ⟨#[]⟩, .int .i64 11]

set_option maxRecDepth 100000 in
set_option maxHeartbeats 2000000 in
theorem UText_any (v : Value) (l : List Int) (w : World) (hl : l.length ≤ 1000000) (hsl : Sl w 1 encI v l) (hr : ∀ x ∈ l, -9223372036854775808 ≤ x ∧ x ≤ 9223372036854775807) :
    Calls Tryd.prog 19 #[v] w fun e w' => e = .returned (.tuple (textOut l)) ∧ Below w.heap.size w w' := by
  obtain ⟨p, cap, rfl, hmx⟩ := hsl.shape
  go_enter Tryd.func19, Tryd.ntmps19
  go_wp2
  have hb0 : (w.alloc (.cells #[.pointer none, .slice none 0 0] 53)).heap[w.heap.size]? = some (.cells #[.pointer none, .slice none 0 0] 53 (0, 0)) := World.alloc_heap_new w _
  have hbs : Lib.IsBuilderF 53 5 w.heap.size w.heap.size (Lib.byteCells (txt [])) (w.alloc (.cells #[.pointer none, .slice none 0 0] 53)) :=
    .inl ⟨Nat.le_refl _, _, hb0, World.ownsRowF_of (World.ownsRow_nil _ _ _ _), by simp [Value.ownBlock]⟩
  go_loopw [6, 9] (fun _ i wr => ∃ k : Nat, k ≤ l.length ∧ (∀ y ∈ l.take k, okv y) ∧ i = .int .i64 k ∧ Lib.IsBuilderF 53 5 w.heap.size w.heap.size (Lib.byteCells (txt (l.take k))) wr ∧ Below w.heap.size w wr) (fun _ i _ => l.length - (RowKit.intOf i).toNat)
  case atStart => exact ⟨0, Nat.zero_le _, by simp, rfl, hbs, (Below.refl _ _).alloc (Nat.le_refl _) _⟩
  case round =>
    obtain ⟨k, hk, hok, rfl, hbu, hB⟩ := hrel
    by_cases hkl : k < l.length
    · have hne : l ≠ [] := by intro h; rw [h] at hkl; simp at hkl
      obtain ⟨b, o, cap', he, h1, h2, h3⟩ := hsl.open hne
      cases he
      have hc0 := rangeAt_one (h3 k l[k] (List.getElem?_eq_getElem hkl))
      have hc : wr.cell? ⟨b, o + k, none⟩ = some (.int .i64 l[k]) := by
        have := (Kept.of_below hB 0).cell hc0
        simpa using this
      obtain ⟨x, hx⟩ : ∃ x, l[k] = x := ⟨_, rfl⟩
      have hxm : x ∈ l := by rw [← hx]; exact List.getElem_mem hkl
      have hxr := hr x hxm
      rw [hx] at hc
      have htk : l.take (k + 1) = l.take k ++ [x] := by rw [List.take_succ_eq_append_getElem hkl, hx]
      clear hx
      by_cases hxo : okv x
      · obtain ⟨x1, x2, x3⟩ := hxo
        have hbl : (Lib.byteCells (txt (l.take k))).length + 4 ≤ 140737488355328 := by
          have := txt_le hok
          rw [List.length_take] at this
          rw [Lib.byteCells_length]; omega
        have hwr := WriteRune_any w.heap.size w.heap.size _ x (by omega) (by omega) wr hbu hbl hB.size
        have hok2 : ∀ y ∈ l.take (k + 1), okv y := by
          intro y hy
          rw [htk] at hy
          rcases List.mem_append.1 hy with h | h
          · exact hok y h
          · rw [List.mem_singleton.1 h]; exact ⟨x1, x2, x3⟩
        have Htk := hid htk
        have Hok := hid hok
        have Hok2 := hid hok2
        clear htk hok hbl hxr h3 hok2 hr hsl hxm
        have hcs : x < 55296 ∨ (55296 ≤ x ∧ 57343 < x) := by omega
        clear x3
        rcases hcs with x3 | ⟨x3, x4⟩
        all_goals
          go_wp2_with (fail)
          refine hwr.mono ?_
          rintro e w' ⟨rfl, hbf, hbel⟩
          go_wp2
          refine ⟨⟨k + 1, by omega, Hid.out Hok2, rfl, ?_, hB.trans hbel⟩, ?_⟩
          · rw [Hid.out Htk, byteCells_snoc]; exact .inr hbf
          · simp only [RowKit.intOf]; omega
      · have hno : ¬ ∀ y ∈ l, okv y := fun h => hxo (h x hxm)
        have Hno := hid hno
        have hcs : x < 0 ∨ (0 ≤ x ∧ 1114111 < x) ∨ (0 ≤ x ∧ x ≤ 1114111 ∧ 55296 ≤ x ∧ x ≤ 57343) := by unfold okv at hxo; omega
        clear hno hxo htk hok h3 hxr hr hsl hxm
        rcases hcs with x1 | ⟨x1, x2⟩ | ⟨x1, x2, x3, x4⟩
        all_goals
          go_wp2
          go_ret2
          exact ⟨by rw [show textOut l = _ from if_neg (Hid.out Hno)]; rfl, hB⟩
    · obtain rfl : k = l.length := by omega
      rw [List.take_length] at hbu hok
      have hst := Tryd.Builder_String_any_k w.heap.size w.heap.size (txt l) wr hbu hB.size
      have Hok := hid hok
      obtain ⟨s, hs⟩ : ∃ s : ByteArray, (⟨(txt l).toArray⟩ : ByteArray) = s := ⟨_, rfl⟩
      rw [hs] at hst
      have Hs := hid hs
      clear hok hbu hr hsl hs
      go_wp2_with (fail)
      refine hst.mono ?_
      rintro e w' ⟨rfl, -, hbel, -⟩
      have hB2 := hB.trans hbel
      clear hst hbel hb0 hbs
      go_wp2
      go_ret2
      exact ⟨by rw [show textOut l = _ from if_pos (Hid.out Hok), Hid.out Hs]; rfl, hB2⟩
end Go.Proofs.YtncohgkpdfmdgaaDoor
