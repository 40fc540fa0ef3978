/- ApplySubst. -/
import Derived.Test.YtkcfegkfbijedaaDoorAiI2
import Derived.Test.YtkcfegkfbijedaaDoorAiB1
namespace Go.Ai
set_option linter.unusedVariables false
set_option linter.unusedSimpArgs false
open Go.Proofs
set_option maxRecDepth 100000

def bidx : List GBind → ByteArray → Int → Int
  | [], _, _ => -1
  | b :: bs, s, k => if eqS b.na s then k else bidx bs s (k + 1)
def bnd : List GBind → ByteArray → Option Tm
  | [], _ => none
  | b :: bs, s => if eqS b.na s then some b.t else bnd bs s
def zeroT : Tm := .mk 0 0 ByteArray.empty []
theorem bidx_none : ∀ (bs : List GBind) (s : ByteArray) (k : Int), bnd bs s = none → bidx bs s k = -1
  | [], _, _, _ => rfl
  | b :: bs, s, k, h => by
    simp only [bnd] at h
    simp only [bidx]
    split at h
    · cases h
    · rename_i hn; rw [if_neg hn]; exact bidx_none bs s (k + 1) h
theorem bidx_some : ∀ (bs : List GBind) (s : ByteArray) (k : Int) (t : Tm), bnd bs s = some t → ∃ i, ∃ h : i < bs.length, bidx bs s k = k + i ∧ bs[i].t = t
  | [], _, _, _, h => by cases h
  | b :: bs, s, k, t, h => by
    simp only [bnd] at h
    simp only [bidx]
    split at h
    · rename_i hn
      rw [if_pos hn]
      exact ⟨0, by simp, by simp, by simpa using h⟩
    · rename_i hn
      rw [if_neg hn]
      obtain ⟨i, hi, h1, h2⟩ := bidx_some bs s (k + 1) t h
      exact ⟨i + 1, by simpa using hi, by rw [h1]; push_cast; omega, by simpa using h2⟩
theorem bidx_drop (bs : List GBind) (s : ByteArray) (i : Nat) (h : i < bs.length) (k : Int) : bidx (bs.drop i) s k = if eqS bs[i].na s then k else bidx (bs.drop (i + 1)) s (k + 1) := by
  rw [List.drop_eq_getElem_cons h]; simp only [bidx]
theorem bnd_drop (bs : List GBind) (s : ByteArray) (i : Nat) (h : i < bs.length) : bnd (bs.drop i) s = if eqS bs[i].na s then some bs[i].t else bnd (bs.drop (i + 1)) s := by
  rw [List.drop_eq_getElem_cons h]; simp only [bnd]
mutual
def Tm.sub (bs : List GBind) : Tm → Tm
  | .mk k n s ts => if k == 1 then ((bnd bs s).getD (.mk k n s (Tm.subs bs ts))) else .mk k n s (Tm.subs bs ts)
def Tm.subs (bs : List GBind) : List Tm → List Tm
  | [] => []
  | a :: ts => a.sub bs :: Tm.subs bs ts
end
theorem subs_map (bs : List GBind) : ∀ (ts : List Tm), Tm.subs bs ts = ts.map (Tm.sub bs)
  | [] => rfl
  | a :: ts => by simp only [Tm.subs, List.map_cons, subs_map bs ts]
theorem sub_var (bs : List GBind) (n : Int) (s : ByteArray) (ts : List Tm) (t : Tm) (h : bnd bs s = some t) : (Tm.mk 1 n s ts).sub bs = t := by simp only [Tm.sub, h]; rfl
theorem sub_none (bs : List GBind) (k n : Int) (s : ByteArray) (ts : List Tm) (h : k = 1 → bnd bs s = none) : (Tm.mk k n s ts).sub bs = .mk k n s (Tm.subs bs ts) := by
  simp only [Tm.sub]
  split
  · rename_i hk
    rw [h (by simpa using hk)]; rfl
  · rfl
theorem bnd_mem (bs : List GBind) (s : ByteArray) (t : Tm) (h : bnd bs s = some t) : ∃ b, b ∈ bs ∧ b.t = t := by
  obtain ⟨i, hi, _, h2⟩ := bidx_some bs s 0 t h
  exact ⟨bs[i], List.getElem_mem hi, h2⟩
theorem bnd_size (bs : List GBind) (hb : ∀ b, b ∈ bs → b.t.size < 1048577) (s : ByteArray) (t : Tm) (h : bnd bs s = some t) : t.size < 1048577 := by
  obtain ⟨b, h1, rfl⟩ := bnd_mem bs s t h
  exact hb b h1

end Go.Ai
