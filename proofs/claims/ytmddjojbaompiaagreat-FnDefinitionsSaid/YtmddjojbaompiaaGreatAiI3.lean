/- ApplySubst. -/
import Derived.Test.YtmddjojbaompiaaGreatAiI2
import Derived.Test.YtmddjojbaompiaaGreatAiB1
set_option linter.unusedVariables false
set_option linter.unusedSimpArgs false
namespace Go.Ai
open Go.Proofs
set_option maxRecDepth 100000
def bidx : List GBind → ByteArray → Int → Int
 | [], _, _ => -1
 | b :: bs, s, k => if eqS b.na s then k else bidx bs s (k + 1)
def bnd : List GBind → ByteArray → Option Tm
 | [], _ => none
 | b :: bs, s => if eqS b.na s then some b.t else bnd bs s
def zeroT : Tm := .mk 0 0 ByteArray.empty []
theorem bidx_some : ∀ (bs : List GBind) (s : ByteArray) (k : Int) (t : Tm), bnd bs s = some t → ∃ i, ∃ h : i < bs.length, bidx bs s k = k + i ∧ bs[i].t = t
 | [], _, _, _, h => by cases h
 | b :: bs, s, k, t, h => by
  simp only [bnd] at h
  simp only [bidx]
  split at h
  ·rename_i hn
   rw [if_pos hn]
   exact ⟨0, by simp, by simp, by simpa using h⟩
  ·rename_i hn
   rw [if_neg hn]
   obtain ⟨i, hi, h1, h2⟩ := bidx_some bs s (k + 1) t h
   exact ⟨i + 1, by simpa using hi, by rw [h1]; push_cast; omega, by simpa using h2⟩
mutual
def Tm.sub (bs : List GBind) : Tm → Tm
 | .mk k n s ts => if k == 1 then ((bnd bs s).getD (.mk k n s (Tm.subs bs ts))) else .mk k n s (Tm.subs bs ts)
def Tm.subs (bs : List GBind) : List Tm → List Tm
 | [] => []
 | a :: ts => a.sub bs :: Tm.subs bs ts
end
theorem subs_map (bs : List GBind) : ∀ (ts : List Tm), Tm.subs bs ts = ts.map (Tm.sub bs)
 | [] => rfl
 | a :: ts => by simp only [Tm.subs, List.map_cons, subs_map bs ts]
theorem bnd_mem (bs : List GBind) (s : ByteArray) (t : Tm) (h : bnd bs s = some t) : ∃ b, b ∈ bs ∧ b.t = t := by
 obtain ⟨i, hi, _, h2⟩ := bidx_some bs s 0 t h
 exact ⟨bs[i], List.getElem_mem hi, h2⟩
end Go.Ai
