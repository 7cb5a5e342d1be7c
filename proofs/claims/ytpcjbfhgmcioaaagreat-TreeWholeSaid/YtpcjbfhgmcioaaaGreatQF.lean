/- The program's tree, plain: what a step does, and that it leaves the tree well. -/
import Derived.Test.YtpcjbfhgmcioaaaGreatQE
import Derived.Test.YtpcjbfhgmcioaaaGreatSA
namespace Go.Proofs.YtpcjbfhgmcioaaaGreat
open Go.RowKit Go.Maps

variable {t : PT}
/-- What a step does: what is answered, and the tree behind it. -/
noncomputable def playP (t : PT) (s : PStep) : Int × PT :=
  if s.what = 0 then ((makeP t s.dir s.name s.kind (leastI t)).1.2, (makeP t s.dir s.name s.kind (leastI t)).2)
  else if s.what = 1 then makeAtP t s.dir s.name s.kind s.ino
  else if s.what = 2 then linkP t s.dir s.name s.ino
  else if s.what = 3 then ((dropP t s.dir s.name unlinkE).1.2, (dropP t s.dir s.name unlinkE).2)
  else if s.what = 4 then ((dropP t s.dir s.name rmdirE).1.2, (dropP t s.dir s.name rmdirE).2)
  else if s.what = 5 then renameP t s.dir s.name s.ino s.toN
  else if s.what = 6 then resizeP t s.ino (s.n % 4294967296)
  else if s.what = 7 then writeP t s.ino s.n s.data
  else if s.what = 8 then holdP t s.ino
  else if s.what = 9 then unholdP t s.ino
  else (0, t)
theorem WellP.playP_ (h : WellP t) (s : PStep) : WellP (playP t s).2 := by
  unfold playP
  split
  · exact h.makeP_ _ _ _ _
  · split
    · exact h.makeAtP_ _ _ _ _
    · split
      · exact h.linkP_ _ _ _
      · split
        · exact h.unlinkP _ _
        · split
          · exact h.rmdirP _ _
          · split
            · exact h.renameP_ _ _ _ _
            · split
              · exact h.resizeP_ _ _ (by omega)
              · split
                · exact h.writeP_ _ _ _
                · split
                  · exact h.holdP_ _
                  · split
                    · exact h.unholdP_ _
                    · exact h
theorem HeldK.playP_ {K : Int} (h : HeldK K t) (hK : 0 ≤ K) (s : PStep) : HeldK (K + 1) (playP t s).2 := by
  have hk : K ≤ K + 1 := by omega
  unfold playP
  split
  · exact (h.makeP_ hK _ _).mono hk
  · split
    · exact (h.makeAtP_ hK _).mono hk
    · split
      · exact h.linkP_.mono hk
      · split
        · exact (h.dropP_ _).mono hk
        · split
          · exact (h.dropP_ _).mono hk
          · split
            · exact (h.renameP_ _ _).mono hk
            · split
              · exact (h.resizeP_ _).mono hk
              · split
                · exact (h.writeP_ _ _).mono hk
                · split
                  · exact h.holdP_
                  · split
                    · exact h.unholdP_.mono hk
                    · exact h.mono hk
end Go.Proofs.YtpcjbfhgmcioaaaGreat
