/- A leaf's bytes read back are its entries. -/
import Derived.Test.YtomgjapjeckokaaIyM
namespace Go.Proofs.Ytomgjapjeckokaa
open Go.RowKit Go.Shelf Go.Lib

theorem b8_nat {n : Int} (h1 : 0 ≤ n) (h2 : n < 256) : ((b8 n).toNat : Int) = n := by
  unfold b8
  rw [Int.emod_eq_of_lt h1 h2, UInt8.toNat_ofNat']
  omega
theorem b8_mod {n : Int} (_h1 : 0 ≤ n) : ((b8 n).toNat : Int) = n % 256 := by
  unfold b8
  rw [UInt8.toNat_ofNat']
  omega
theorem decE_entB {e : Ent} (hk : e.key.length = 32) (ho : oneE e = true) : decE (entB e) = e := by
  obtain ⟨h1, h2, h3, h4, -, h5, h6⟩ := oneE_is ho
  have g : ∀ i, (entB e).getD (32 + i) 0 = ([b8 e.place, b8 e.blocks, b8 (e.refs / 256), b8 e.refs] : List UInt8).getD i 0 := fun i => by
    unfold entB
    rw [List.getD_eq_getElem?_getD, List.getElem?_append_right (by omega), hk, Nat.add_sub_cancel_left, ← List.getD_eq_getElem?_getD]
  unfold decE
  have t : (entB e).take 32 = e.key := by unfold entB; exact List.take_left' hk
  rw [t, g 0, g 1, g 2, g 3]
  cases e
  dsimp only at *
  congr 1
  · exact b8_nat (by omega) (by omega)
  · exact b8_nat (by omega) (by omega)
  · show ((b8 (_ / 256)).toNat : Int) * 256 + ((b8 _).toNat : Int) = _
    rw [b8_nat (by omega) (by omega), b8_mod h5]
    omega
theorem entB_part {l : List Ent} (hk : ∀ e ∈ l, e.key.length = 32) {j : Nat} {e : Ent} (he : l[j]? = some e) : ((l.flatMap entB).drop (36 * j)).take 36 = entB e := by
  have h1 : l = l.take j ++ e :: l.drop (j + 1) := by
    have hj := (List.getElem?_eq_some_iff.1 he)
    obtain ⟨hlt, hv⟩ := hj
    rw [← hv, List.getElem_cons_drop, List.take_append_drop]
  have h2 : (l.flatMap entB) = (l.take j).flatMap entB ++ (entB e ++ (l.drop (j + 1)).flatMap entB) := by
    conv => lhs; rw [h1]
    rw [List.flatMap_append, List.flatMap_cons]
  have h3 : ((l.take j).flatMap entB).length = 36 * j := by
    rw [entsB_len (fun x hx => hk x (List.mem_of_mem_take hx)), List.length_take, Nat.min_eq_left (by have := (List.getElem?_eq_some_iff.1 he).1; omega)]
  rw [h2, List.drop_left' h3]
  exact List.take_left' (entB_len (hk e (List.mem_of_getElem? he)))
theorem entsU_back {l : List Ent} (hk : ∀ e ∈ l, e.key.length = 32) (ho : ∀ e ∈ l, oneE e = true) : entsU (l.flatMap entB) l.length = l := by
  unfold entsU
  refine List.ext_getElem? fun j => ?_
  rw [List.getElem?_map]
  by_cases hj : j < l.length
  · rw [List.getElem?_range hj]
    obtain ⟨e, he⟩ : ∃ e, l[j]? = some e := ⟨_, List.getElem?_eq_getElem hj⟩
    rw [he, Option.map_some]
    unfold entAt
    rw [entB_part hk he, decE_entB (hk e (List.mem_of_getElem? he)) (ho e (List.mem_of_getElem? he))]
  · rw [List.getElem?_eq_none (by simp; omega), List.getElem?_eq_none (by omega)]; rfl
theorem leafL_back {l : List Ent} (hk : ∀ e ∈ l, e.key.length = 32) (hg : goodL l = true) : leafL (sealB (encB l)) = l ∧ ((sealB (encB l)).getD 1 0).toNat = l.length := by
  obtain ⟨h1, h2⟩ := goodL_len hg
  have hn : (b8 (l.length : Int)).toNat = l.length := by
    have := b8_nat (n := (l.length : Int)) (by omega) (by omega)
    omega
  have e0 : sealB (encB l) = 76 :: b8 l.length :: (l.flatMap entB ++ (chkS (encB l) ++ List.replicate (124 - (encB l).length) 0)) := by
    unfold sealB
    conv => lhs; rw [encB]
    simp [encB]
  have e1 : (sealB (encB l)).getD 1 0 = b8 l.length := by rw [e0]; rfl
  refine ⟨?_, by rw [e1, hn]⟩
  unfold leafL
  rw [e1, hn]
  have e2 : ((sealB (encB l)).drop 2).take (36 * l.length) = l.flatMap entB := by
    rw [e0]
    exact List.take_left' (entsB_len hk)
  rw [e2]
  exact entsU_back hk fun e he => by
    obtain ⟨j, hj, rfl⟩ := List.getElem_of_mem he
    exact goodL_at hg (List.getElem?_eq_getElem hj)
theorem decS_back {l : List Ent} (hk : ∀ e ∈ l, e.key.length = 32) (hg : goodL l = true) : decS (sealB (encB l)) = some l := by
  obtain ⟨h1, h2⟩ := leafL_back hk hg
  unfold decS
  rw [h1, h2, if_pos ⟨(goodL_len hg).2, hg, rfl⟩]
end Go.Proofs.Ytomgjapjeckokaa
