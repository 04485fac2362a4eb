import Derived.Test.YtlillgmgpmbfnaaGreatDoorAmG3
set_option linter.unusedVariables false
set_option linter.unusedSimpArgs false
set_option linter.unnecessarySimpa false
set_option maxRecDepth 100000
namespace Go.Proofs.YtlillgmgpmbfnaaGreatDoor
open Go Go.ChangeShapes Go.WideShapes Go.ChangeAt Go.RowKit Go.AM
open Go.AM.YtlillgmgpmbfnaaGreatDoorT (tab tab1 okP1 gl7 awake6_70 gd7 lvg7 joins_w mpO)
theorem parseJoins_walk {W:World} (hL:laidMetH Tryz.prog laid7 W) (a b:ByteArray):Calls Tryz.prog 8 #[.string a,.string b] W fun e w'=>e = .returned (.bool true)/\Below W.heap.size W w':=by
 obtain ⟨M,x,y,z,F⟩:=facts7 hL
 refine top7 F (o3:=none) (o9:=none) (l:=[]) (r:=fun _=>⟨0,0,0,0⟩) (fun _ _=>no_in7) (fun _ _=>no_in7) (fun _ _ i ob h=>by simp at h) (vs:=[.str a.data.toList,.str b.data.toList]) (fun _ _=>.cons _ _ _ _ (rv_str _ _ a) (.cons _ _ _ _ (rv_str _ _ b) .nil)) ?_
 exact joins_w (N:=18) (awake6_70 none none (mpO M.a M.ca) (mpO M.b M.cb) (mpO M.c M.cc)) (gd7 M none none []) (lvg7 F.lvs.ok none none []) (by rw [hO_next];simp [gl7]) _ _
end Go.Proofs.YtlillgmgpmbfnaaGreatDoor
