/- The walk of codexlaw11.Fair. -/
import Derived.Test.YtgbfekimflnaiaaDoorLaw2
import Derived.Test.YtgbfekimflnaiaaDoorKeep
namespace Go.Proofs.YtgbfekimflnaiaaDoor
open Go.RowKit Go.Shelf

/-- a part as it lies in memory: its kind, its words' slice, the words -/
abbrev Pt := Int × Value × List ByteArray
def encPt (x : Pt) : List Value := [.int .i64 x.1, x.2.1]
def bytesOf (ws : List ByteArray) : Nat := (ws.map (·.size)).sum
def bytesAll (L : List Pt) : Nat := (L.map fun x => bytesOf x.2.2).sum
theorem bytesOf_le {ws : List ByteArray} {s : ByteArray} (h : s ∈ ws) : s.size ≤ bytesOf ws := by
  induction ws with
  | nil => cases h
  | cons x r ih =>
    have e : bytesOf (x :: r) = x.size + bytesOf r := by simp [bytesOf]
    rcases List.mem_cons.1 h with rfl | h
    · omega
    · have := ih h; omega
theorem bytesAll_le {L : List Pt} {x : Pt} (h : x ∈ L) : bytesOf x.2.2 ≤ bytesAll L := by
  induction L with
  | nil => cases h
  | cons y r ih =>
    have e : bytesAll (y :: r) = bytesOf y.2.2 + bytesAll r := by simp [bytesAll]
    rcases List.mem_cons.1 h with rfl | h
    · omega
    · have := ih h; omega
theorem bytesOf_take {ws : List ByteArray} {k : Nat} (h : k < ws.length) : bytesOf (ws.take (k + 1)) = bytesOf (ws.take k) + ws[k].size := by
  unfold bytesOf; rw [List.take_succ_eq_append_getElem h, List.map_append, List.sum_append]; simp
theorem bytesAll_take {L : List Pt} {k : Nat} (h : k < L.length) : bytesAll (L.take (k + 1)) = bytesAll (L.take k) + bytesOf L[k].2.2 := by
  unfold bytesAll; rw [List.take_succ_eq_append_getElem h, List.map_append, List.sum_append]; simp

/-- what Fair has found where it says yes -/
def FairP (L : List Pt) : Prop := bytesAll L ≤ 1000 ∧ L.length ≤ 200 ∧ ∀ x ∈ L, x.2.2.length ≤ 300

def FairOut (L : List Pt) (e : Ending) : Prop := ∃ b, e = .returned (.bool b) ∧ (b = true → FairP L)
theorem FairOut.no {L : List Pt} {e : Ending} (h : e = .returned (.bool false)) : FairOut L e := ⟨false, h, fun h => by cases h⟩
theorem FairOut.yes {L : List Pt} {e : Ending} (h : e = .returned (.bool true)) (hp : FairP L) : FairOut L e := ⟨true, h, fun _ => hp⟩

set_option maxRecDepth 100000 in
set_option maxHeartbeats 4000000 in
theorem FairP_any (v : Value) (L : List Pt) (w : World) (hsl : Sl w 2 encPt v L) (hws : ∀ x ∈ L, Sl w 1 encS x.2.1 x.2.2) :
    Calls Tryd.prog 8 #[v] w fun e w' => FairOut L e ∧ w' = w := by
  obtain ⟨p, cap, rfl, hmx⟩ := hsl.shape
  unfold maxLen at hmx
  go_enter Tryd.func8, Tryd.ntmps8
  go_wp2_with (fail)
  go_loopw [3, 4] (fun n i wr => ∃ k : Nat, k ≤ L.length ∧ i = .int .i64 k ∧ n = .int .i64 (bytesAll (L.take k)) ∧ bytesAll (L.take k) ≤ 1000 ∧ (∀ x ∈ L.take k, x.2.2.length ≤ 300) ∧ wr = w) (fun _ i _ => L.length - (RowKit.intOf i).toNat)
  case atStart => exact ⟨0, Nat.zero_le _, rfl, by simp [bytesAll], by simp [bytesAll], by simp, rfl⟩
  case round =>
    obtain ⟨k, hk, rfl, rfl, hb, h3, rfl⟩ := hrel
    by_cases hkl : k < L.length
    · have hkI : (k : Int) < (L.length : Int) := by omega
      obtain ⟨nb, no, cap', he, h1, h2, hc⟩ := hsl.open (by rintro rfl; simp at hkl)
      simp only [Value.slice.injEq] at he
      obtain ⟨rfl, -, rfl⟩ := he
      have hck := hc k L[k] (List.getElem?_eq_getElem hkl)
      have hx1 := hck 1 _ rfl
      have hsw := hws L[k] (List.getElem_mem _)
      have htk := hid (bytesAll_take hkl)
      have htm := hid (List.take_succ_eq_append_getElem hkl)
      obtain ⟨pw, cw, hwv, hwx⟩ := hsw.shape
      rw [hwv] at hx1 hsw
      clear hck hc hwv
      generalize L[k] = X at *
      obtain ⟨ws, hX⟩ : ∃ ws, X.2.2 = ws := ⟨_, rfl⟩
      rw [hX] at hx1 hsw htk hwx
      unfold maxLen at hwx
      by_cases hw3 : (300 : Int) < ws.length
      · go_wp2_with (fail)
        go_ret
        exact ⟨.no rfl, rfl⟩
      · obtain ⟨N, hN⟩ : ∃ N, bytesAll (L.take k) = N := ⟨_, rfl⟩
        rw [hN] at hb htk ⊢
        go_wp2_with (fail)
        go_loopw [3, 5] (fun n i wz => ∃ j : Nat, j ≤ ws.length ∧ i = .int .i64 j ∧ n = .int .i64 ((N + bytesOf (ws.take j) : Nat) : Int) ∧ N + bytesOf (ws.take j) ≤ 1000 ∧ wz = wr) (fun _ i _ => ws.length - (RowKit.intOf i).toNat)
        case atStart => exact ⟨0, Nat.zero_le _, rfl, by simp [bytesOf], by simpa [bytesOf] using hb, rfl⟩
        case round =>
          obtain ⟨j, hj, rfl, rfl, hb2, rfl⟩ := hrel
          by_cases hjl : j < ws.length
          · have hjI : (j : Int) < (ws.length : Int) := by omega
            obtain ⟨mb, mo, cap2, he, h4, h5, hc2⟩ := hsw.open (by rintro rfl; simp at hjl)
            simp only [Value.slice.injEq] at he
            obtain ⟨rfl, -, rfl⟩ := he
            have hcj := rangeAt_one (hc2 j ws[j] (List.getElem?_eq_getElem hjl))
            rw [Nat.mul_one] at hcj
            have hbt := hid (bytesOf_take hjl)
            generalize ws[j] = T at *
            generalize bytesOf (ws.take j) = Y at *
            clear hc2
            by_cases ht : (1001 : Int) < T.size
            · have hmin : (if (1001 : Int) < T.size then (1001 : Int) else T.size) = 1001 := if_pos ht
              have ho : (1000 : Int) < N + Y + 1001 := by omega
              go_wp2_with (fail)
              go_ret
              exact ⟨.no rfl, rfl⟩
            · have hmin : (if (1001 : Int) < T.size then (1001 : Int) else T.size) = T.size := if_neg ht
              by_cases ho : (1000 : Int) < N + Y + (T.size : Int)
              · go_wp2_with (fail)
                go_ret
                exact ⟨.no rfl, rfl⟩
              · go_wp2_with (fail)
                refine ⟨⟨j + 1, by omega, by go_num, ?_, by rw [hbt.out]; omega, trivial⟩, by simp [RowKit.intOf]; omega⟩
                rw [hbt.out]
                congr 1; omega
          · obtain rfl : j = ws.length := by omega
            rw [List.take_length] at hb2 ⊢
            go_wp2_with (fail)
            refine ⟨⟨k + 1, by omega, by go_num, by rw [htk.out], by rw [htk.out]; exact hb2, ?_, trivial⟩, by simp [RowKit.intOf]; omega⟩
            rw [htm.out]
            intro y hy
            rcases List.mem_append.1 hy with h | h
            · exact h3 y h
            · obtain rfl : y = X := by simpa using h
              rw [hX]; omega
    · obtain rfl : k = L.length := by omega
      rw [List.take_length] at hb h3
      by_cases hl2 : (L.length : Int) ≤ 200
      · go_wp2_with (fail)
        go_ret
        exact ⟨.yes rfl ⟨hb, by omega, h3⟩, rfl⟩
      · go_wp2_with (fail)
        go_ret
        exact ⟨.no rfl, rfl⟩
end Go.Proofs.YtgbfekimflnaiaaDoor
