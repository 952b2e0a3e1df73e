/- The kinds of data that the law reads, and facts on types. -/
import Derived.Test.YtjkcinpmbgcgpaaGreatDoorMi
import Derived.Test.YtjkcinpmbgcgpaaGreatDoorProg
import Derived.Test.YtjkcinpmbgcgpaaGreatDoorSyQ
namespace Go.Proofs.YtjkcinpmbgcgpaaGreatDoor
open Go Go.Sy Go.RowKit
set_option linter.unusedVariables false
set_option maxHeartbeats 1000000
instance en4:En Tryz.prog 4:=⟨fun _ _=>by kernel_rfl⟩
instance en5:En Tryz.prog 5:=⟨fun _ _=>by kernel_rfl⟩
instance en6:En Tryz.prog 6:=⟨fun _ _=>by kernel_rfl⟩
instance en7:En Tryz.prog 7:=⟨fun _ _=>by kernel_rfl⟩
instance en8:En Tryz.prog 8:=⟨fun _ _=>by kernel_rfl⟩
instance en9:En Tryz.prog 9:=⟨fun _ _=>by kernel_rfl⟩
instance en10:En Tryz.prog 10:=⟨fun _ _=>by kernel_rfl⟩
instance en11:En Tryz.prog 11:=⟨fun _ _=>by kernel_rfl⟩
instance en12:En Tryz.prog 12:=⟨fun _ _=>by kernel_rfl⟩
instance en13:En Tryz.prog 13:=⟨fun _ _=>by kernel_rfl⟩
instance en14:En Tryz.prog 14:=⟨fun _ _=>by kernel_rfl⟩
instance en15:En Tryz.prog 15:=⟨fun _ _=>by kernel_rfl⟩
instance en16:En Tryz.prog 16:=⟨fun _ _=>by kernel_rfl⟩
instance en17:En Tryz.prog 17:=⟨fun _ _=>by kernel_rfl⟩
instance en18:En Tryz.prog 18:=⟨fun _ _=>by kernel_rfl⟩
instance en19:En Tryz.prog 19:=⟨fun _ _=>by kernel_rfl⟩
instance en20:En Tryz.prog 20:=⟨fun _ _=>by kernel_rfl⟩
instance en21:En Tryz.prog 21:=⟨fun _ _=>by kernel_rfl⟩
instance en22:En Tryz.prog 22:=⟨fun _ _=>by kernel_rfl⟩
instance en23:En Tryz.prog 23:=⟨fun _ _=>by kernel_rfl⟩
instance en24:En Tryz.prog 24:=⟨fun _ _=>by kernel_rfl⟩
instance en25:En Tryz.prog 25:=⟨fun _ _=>by kernel_rfl⟩
instance en26:En Tryz.prog 26:=⟨fun _ _=>by kernel_rfl⟩
instance en27:En Tryz.prog 27:=⟨fun _ _=>by kernel_rfl⟩
instance en28:En Tryz.prog 28:=⟨fun _ _=>by kernel_rfl⟩
instance en29:En Tryz.prog 29:=⟨fun _ _=>by kernel_rfl⟩
instance en30:En Tryz.prog 30:=⟨fun _ _=>by kernel_rfl⟩
instance en31:En Tryz.prog 31:=⟨fun _ _=>by kernel_rfl⟩
instance en32:En Tryz.prog 32:=⟨fun _ _=>by kernel_rfl⟩
instance en33:En Tryz.prog 33:=⟨fun _ _=>by kernel_rfl⟩
instance en34:En Tryz.prog 34:=⟨fun _ _=>by kernel_rfl⟩
instance en35:En Tryz.prog 35:=⟨fun _ _=>by kernel_rfl⟩
instance en36:En Tryz.prog 36:=⟨fun _ _=>by kernel_rfl⟩
instance en37:En Tryz.prog 37:=⟨fun _ _=>by kernel_rfl⟩
instance en38:En Tryz.prog 38:=⟨fun _ _=>by kernel_rfl⟩
instance en39:En Tryz.prog 39:=⟨fun _ _=>by kernel_rfl⟩
instance en40:En Tryz.prog 40:=⟨fun _ _=>by kernel_rfl⟩
instance en41:En Tryz.prog 41:=⟨fun _ _=>by kernel_rfl⟩
instance en42:En Tryz.prog 42:=⟨fun _ _=>by kernel_rfl⟩
instance en43:En Tryz.prog 43:=⟨fun _ _=>by kernel_rfl⟩
instance en44:En Tryz.prog 44:=⟨fun _ _=>by kernel_rfl⟩
instance en45:En Tryz.prog 45:=⟨fun _ _=>by kernel_rfl⟩
instance en46:En Tryz.prog 46:=⟨fun _ _=>by kernel_rfl⟩
instance en47:En Tryz.prog 47:=⟨fun _ _=>by kernel_rfl⟩
instance en48:En Tryz.prog 48:=⟨fun _ _=>by kernel_rfl⟩
instance en49:En Tryz.prog 49:=⟨fun _ _=>by kernel_rfl⟩
instance en50:En Tryz.prog 50:=⟨fun _ _=>by kernel_rfl⟩
instance en51:En Tryz.prog 51:=⟨fun _ _=>by kernel_rfl⟩
instance en52:En Tryz.prog 52:=⟨fun _ _=>by kernel_rfl⟩
instance en53:En Tryz.prog 53:=⟨fun _ _=>by kernel_rfl⟩
instance en54:En Tryz.prog 54:=⟨fun _ _=>by kernel_rfl⟩
instance en55:En Tryz.prog 55:=⟨fun _ _=>by kernel_rfl⟩
instance en56:En Tryz.prog 56:=⟨fun _ _=>by kernel_rfl⟩
instance en57:En Tryz.prog 57:=⟨fun _ _=>by kernel_rfl⟩
instance en58:En Tryz.prog 58:=⟨fun _ _=>by kernel_rfl⟩
instance en59:En Tryz.prog 59:=⟨fun _ _=>by kernel_rfl⟩
instance en60:En Tryz.prog 60:=⟨fun _ _=>by kernel_rfl⟩
instance en61:En Tryz.prog 61:=⟨fun _ _=>by kernel_rfl⟩
instance en62:En Tryz.prog 62:=⟨fun _ _=>by kernel_rfl⟩
instance en63:En Tryz.prog 63:=⟨fun _ _=>by kernel_rfl⟩
instance en64:En Tryz.prog 64:=⟨fun _ _=>by kernel_rfl⟩
instance en65:En Tryz.prog 65:=⟨fun _ _=>by kernel_rfl⟩
instance en66:En Tryz.prog 66:=⟨fun _ _=>by kernel_rfl⟩
instance en67:En Tryz.prog 67:=⟨fun _ _=>by kernel_rfl⟩
instance en68:En Tryz.prog 68:=⟨fun _ _=>by kernel_rfl⟩
instance en69:En Tryz.prog 69:=⟨fun _ _=>by kernel_rfl⟩
instance en70:En Tryz.prog 70:=⟨fun _ _=>by kernel_rfl⟩
instance en71:En Tryz.prog 71:=⟨fun _ _=>by kernel_rfl⟩
instance en72:En Tryz.prog 72:=⟨fun _ _=>by kernel_rfl⟩
instance en73:En Tryz.prog 73:=⟨fun _ _=>by kernel_rfl⟩
instance en74:En Tryz.prog 74:=⟨fun _ _=>by kernel_rfl⟩
instance en75:En Tryz.prog 75:=⟨fun _ _=>by kernel_rfl⟩
instance en76:En Tryz.prog 76:=⟨fun _ _=>by kernel_rfl⟩
instance en79:En Tryz.prog 79:=⟨fun _ _=>by kernel_rfl⟩
instance en80:En Tryz.prog 80:=⟨fun _ _=>by kernel_rfl⟩
instance en81:En Tryz.prog 81:=⟨fun _ _=>by kernel_rfl⟩
instance en82:En Tryz.prog 82:=⟨fun _ _=>by kernel_rfl⟩
instance en83:En Tryz.prog 83:=⟨fun _ _=>by kernel_rfl⟩
instance en84:En Tryz.prog 84:=⟨fun _ _=>by kernel_rfl⟩
instance en85:En Tryz.prog 85:=⟨fun _ _=>by kernel_rfl⟩
instance en86:En Tryz.prog 86:=⟨fun _ _=>by kernel_rfl⟩
instance en87:En Tryz.prog 87:=⟨fun _ _=>by kernel_rfl⟩
instance en88:En Tryz.prog 88:=⟨fun _ _=>by kernel_rfl⟩
instance en89:En Tryz.prog 89:=⟨fun _ _=>by kernel_rfl⟩
instance en90:En Tryz.prog 90:=⟨fun _ _=>by kernel_rfl⟩
instance en91:En Tryz.prog 91:=⟨fun _ _=>by kernel_rfl⟩
instance en93:En Tryz.prog 93:=⟨fun _ _=>by kernel_rfl⟩
instance en94:En Tryz.prog 94:=⟨fun _ _=>by kernel_rfl⟩
instance en100:En Tryz.prog 100:=⟨fun _ _=>by kernel_rfl⟩
instance en101:En Tryz.prog 101:=⟨fun _ _=>by kernel_rfl⟩
instance en102:En Tryz.prog 102:=⟨fun _ _=>by kernel_rfl⟩
instance en103:En Tryz.prog 103:=⟨fun _ _=>by kernel_rfl⟩
instance en106:En Tryz.prog 106:=⟨fun _ _=>by kernel_rfl⟩
instance en107:En Tryz.prog 107:=⟨fun _ _=>by kernel_rfl⟩
instance en108:En Tryz.prog 108:=⟨fun _ _=>by kernel_rfl⟩
instance en109:En Tryz.prog 109:=⟨fun _ _=>by kernel_rfl⟩
instance en110:En Tryz.prog 110:=⟨fun _ _=>by kernel_rfl⟩
instance en111:En Tryz.prog 111:=⟨fun _ _=>by kernel_rfl⟩
instance en120:En Tryz.prog 120:=⟨fun _ _=>by kernel_rfl⟩
instance en121:En Tryz.prog 121:=⟨fun _ _=>by kernel_rfl⟩
instance en122:En Tryz.prog 122:=⟨fun _ _=>by kernel_rfl⟩
instance en123:En Tryz.prog 123:=⟨fun _ _=>by kernel_rfl⟩
instance en128:En Tryz.prog 128:=⟨fun _ _=>by kernel_rfl⟩
instance en129:En Tryz.prog 129:=⟨fun _ _=>by kernel_rfl⟩
theorem aX:aggT Tryz.prog 25 2=true:=by kernel_rfl
theorem s5:aggT Tryz.prog 28 2=true:=by kernel_rfl
theorem ck:aggT Tryz.prog 45 4=true:=by kernel_rfl
theorem db:aggT Tryz.prog 47 5=true:=by kernel_rfl
theorem m7:aggT Tryz.prog 64 6=true:=by kernel_rfl
theorem eo:aggT Tryz.prog 66 8=true:=by kernel_rfl
theorem gs:aggT Tryz.prog 69 7=true:=by kernel_rfl
theorem ak:aggT Tryz.prog 71 4=true:=by kernel_rfl
theorem dt:aggT Tryz.prog 83 11=true:=by kernel_rfl
theorem fJ:aggT Tryz.prog 93 3=true:=by kernel_rfl
theorem aC:aggT Tryz.prog 106 3=true:=by kernel_rfl
theorem di:aggT Tryz.prog 109 2=true:=by kernel_rfl
theorem dh:aggT Tryz.prog 139 4=true:=by kernel_rfl
theorem ci:aggT Tryz.prog 141 10=true:=by kernel_rfl
theorem p7:aggT Tryz.prog 146 2=true:=by kernel_rfl
theorem gJ:aggT Tryz.prog 182 2=true:=by kernel_rfl
theorem gI:aggT Tryz.prog 184 1=true:=by kernel_rfl
theorem gH:aggT Tryz.prog 186 3=true:=by kernel_rfl
theorem tb4:Tryz.prog.underlying 4=some .bool:=by kernel_rfl
theorem r6:cellT Tryz.prog 3=true:=by kernel_rfl
theorem dr:cellT Tryz.prog 4=true:=by kernel_rfl
theorem r9:cellT Tryz.prog 9=true:=by kernel_rfl
theorem ft:cellT Tryz.prog 22=true:=by kernel_rfl
theorem fs:cellT Tryz.prog 23=true:=by kernel_rfl
theorem m8:cellT Tryz.prog 26=true:=by kernel_rfl
theorem n9:cellT Tryz.prog 29=true:=by kernel_rfl
theorem dK:cellT Tryz.prog 43=true:=by kernel_rfl
theorem gG:cellT Tryz.prog 58=true:=by kernel_rfl
theorem aJ:cellT Tryz.prog 60=true:=by kernel_rfl
theorem da:cellT Tryz.prog 61=true:=by kernel_rfl
theorem en:cellT Tryz.prog 62=true:=by kernel_rfl
theorem cj:cellT Tryz.prog 79=true:=by kernel_rfl
theorem gO:cellT Tryz.prog 89=true:=by kernel_rfl
theorem fG:cellT Tryz.prog 90=true:=by kernel_rfl
theorem gd:cellT Tryz.prog 91=true:=by kernel_rfl
theorem fR:cellT Tryz.prog 95=true:=by kernel_rfl
theorem fd:cellT Tryz.prog 104=true:=by kernel_rfl
theorem cT:cellT Tryz.prog 107=true:=by kernel_rfl
theorem ga:cellT Tryz.prog 122=true:=by kernel_rfl
theorem gq:cellT Tryz.prog 123=true:=by kernel_rfl
theorem ed:cellT Tryz.prog 124=true:=by kernel_rfl
theorem gk:cellT Tryz.prog 125=true:=by kernel_rfl
theorem eF:cellT Tryz.prog 134=true:=by kernel_rfl
theorem fc:cellT Tryz.prog 137=true:=by kernel_rfl
theorem gj:cellT Tryz.prog 145=true:=by kernel_rfl
theorem fZ:cellT Tryz.prog 151=true:=by kernel_rfl
theorem gi:cellT Tryz.prog 211=true:=by kernel_rfl
theorem aq:Tryz.prog.underlying 9=some keyStr.desc:=by kernel_rfl
theorem em:Tryz.prog.underlying 9=some keyStr.desc:=by kernel_rfl
theorem dA:Tryz.prog.underlying 3=some keyInt.desc:=by kernel_rfl
theorem fY:Tryz.prog.underlying 3=some keyInt.desc:=by kernel_rfl
theorem aj:Tryz.prog.underlying 79=some (.map 9 3):=by kernel_rfl
theorem ec:Tryz.prog.underlying 95=some (.map 9 4):=by kernel_rfl
theorem cS:Tryz.prog.underlying 124=some (.map 3 3):=by kernel_rfl
theorem fX:Tryz.prog.underlying 125=some (.map 3 4):=by kernel_rfl
theorem tn179:Tryz.prog.underlying 179=some (.interface (Tryz.prog.methodsAt 179)):=by kernel_rfl
theorem eE:plainT Tryz.prog 182=true:=by kernel_rfl
theorem fB:plainT Tryz.prog 184=true:=by kernel_rfl
theorem fA:plainT Tryz.prog 186=true:=by kernel_rfl
theorem gF:plainT Tryz.prog 204=true:=by kernel_rfl
theorem dy:slT Tryz.prog 22 106 3 64=true:=by kernel_rfl
theorem fF:slT Tryz.prog 23 66 8 144=true:=by kernel_rfl
theorem bz:slT Tryz.prog 26 71 4 56=true:=by kernel_rfl
theorem y9:slT Tryz.prog 29 3 1 8=true:=by kernel_rfl
theorem fQ:slT Tryz.prog 43 45 4 56=true:=by kernel_rfl
theorem bM:slT Tryz.prog 60 9 1 16=true:=by kernel_rfl
theorem el:slT Tryz.prog 61 64 6 104=true:=by kernel_rfl
theorem fr:slT Tryz.prog 62 141 10 160=true:=by kernel_rfl
theorem gN:slT Tryz.prog 72 28 2 32=true:=by kernel_rfl
theorem fy:slT Tryz.prog 104 109 2 40=true:=by kernel_rfl
theorem dz:slT Tryz.prog 107 146 2 40=true:=by kernel_rfl
theorem gE:slT Tryz.prog 136 89 1 8=true:=by kernel_rfl
theorem gh:slT Tryz.prog 137 139 4 56=true:=by kernel_rfl
theorem fx:Tryz.prog.underlying 9=some .string:=by kernel_rfl
theorem fE:Tryz.prog.underlying 22=some (.slice 106):=by kernel_rfl
theorem fP:Tryz.prog.underlying 23=some (.slice 66):=by kernel_rfl
theorem be:Tryz.prog.underlying 26=some (.slice 71):=by kernel_rfl
theorem aE:Tryz.prog.underlying 29=some (.slice 3):=by kernel_rfl
theorem fI:Tryz.prog.underlying 43=some (.slice 45):=by kernel_rfl
theorem bj:Tryz.prog.underlying 60=some (.slice 9):=by kernel_rfl
theorem ek:Tryz.prog.underlying 61=some (.slice 64):=by kernel_rfl
theorem eY:Tryz.prog.underlying 62=some (.slice 141):=by kernel_rfl
theorem gM:Tryz.prog.underlying 72=some (.slice 28):=by kernel_rfl
theorem fD:Tryz.prog.underlying 90=some (.slice 154):=by kernel_rfl
theorem gc:Tryz.prog.underlying 91=some (.slice 158):=by kernel_rfl
theorem fb:Tryz.prog.underlying 104=some (.slice 109):=by kernel_rfl
theorem ch:Tryz.prog.underlying 107=some (.slice 146):=by kernel_rfl
theorem gD:Tryz.prog.underlying 136=some (.slice 89):=by kernel_rfl
theorem eZ:Tryz.prog.underlying 137=some (.slice 139):=by kernel_rfl
theorem eL:(Tryz.prog.info? 3).bind TypeInfo.zero=some (.int .i64 0):=by kernel_rfl
theorem gp:(Tryz.prog.info? 4).bind TypeInfo.zero=some (.bool false):=by kernel_rfl
theorem gL:(Tryz.prog.info? 25).bind TypeInfo.zero=some (.agg #[.slice none 0 0,.slice none 0 0]):=by kernel_rfl
theorem ab:(Tryz.prog.info? 28).bind TypeInfo.zero=some (.agg #[.int .i64 0,.slice none 0 0]):=by kernel_rfl
theorem gw:(Tryz.prog.info? 29).bind TypeInfo.zero=some (.slice none 0 0):=by kernel_rfl
theorem go:(Tryz.prog.info? 45).bind TypeInfo.zero=some (.agg #[.int .i64 0,.string (bs []),.int .i64 0,.slice none 0 0]):=by kernel_rfl
theorem gf:(Tryz.prog.info? 47).bind TypeInfo.zero=some (.agg #[.int .i64 0,.string (bs []),.int .i64 0,.slice none 0 0,.slice none 0 0]):=by kernel_rfl
theorem gK:(Tryz.prog.info? 60).bind TypeInfo.zero=some (.slice none 0 0):=by kernel_rfl
theorem eK:(Tryz.prog.info? 64).bind TypeInfo.zero=some (.agg #[.int .i64 0,.string (bs []),.int .i64 0,.slice none 0 0,.slice none 0 0,.slice none 0 0]):=by kernel_rfl
theorem gb:(Tryz.prog.info? 66).bind TypeInfo.zero=some (.agg #[.string (bs []),.slice none 0 0,.int .i64 0,.string (bs []),.int .i64 0,.slice none 0 0,.slice none 0 0,.slice none 0 0]):=by kernel_rfl
theorem cR:(Tryz.prog.info? 71).bind TypeInfo.zero=some (.agg #[.int .i64 0,.string (bs []),.int .i64 0,.slice none 0 0]):=by kernel_rfl
theorem gn:(Tryz.prog.info? 83).bind TypeInfo.zero=some (.agg #[.int .i64 0,.string (bs []),.int .i64 0,.slice none 0 0,.slice none 0 0,.slice none 0 0,.map none,.int .i64 0,.bool false,.slice none 0 0,.bool false]):=by kernel_rfl
theorem dS:(Tryz.prog.info? 106).bind TypeInfo.zero=some (.agg #[.string (bs []),.slice none 0 0,.slice none 0 0]):=by kernel_rfl
theorem fv:(Tryz.prog.info? 109).bind TypeInfo.zero=some (.agg #[.string (bs []),.slice none 0 0]):=by kernel_rfl
theorem gC:(Tryz.prog.info? 115).bind TypeInfo.zero=some (.agg #[.pointer none,.slice none 0 0]):=by kernel_rfl
theorem gB:(Tryz.prog.info? 122).bind TypeInfo.zero=some .nilFunc:=by kernel_rfl
theorem gA:(Tryz.prog.info? 124).bind TypeInfo.zero=some (.map none):=by kernel_rfl
theorem fW:(Tryz.prog.info? 139).bind TypeInfo.zero=some (.agg #[.int .i64 0,.string (bs []),.int .i64 0,.slice none 0 0]):=by kernel_rfl
theorem eD:(Tryz.prog.info? 141).bind TypeInfo.zero=some (.agg #[.int .i64 0,.string (bs []),.int .i64 0,.slice none 0 0,.int .i64 0,.string (bs []),.int .i64 0,.slice none 0 0,.slice none 0 0,.slice none 0 0]):=by kernel_rfl
theorem gz:(Tryz.prog.info? 145).bind TypeInfo.zero=some .nilFunc:=by kernel_rfl
theorem cm:(Tryz.prog.info? 146).bind TypeInfo.zero=some (.agg #[.string (bs []),.slice none 0 0]):=by kernel_rfl
theorem gy:(Tryz.prog.info? 151).bind TypeInfo.zero=some .nilFunc:=by kernel_rfl
theorem fH:(Tryz.prog.info? 182).bind TypeInfo.zero=some (.agg #[.bool false,.bool false]):=by kernel_rfl
theorem fV:(Tryz.prog.info? 184).bind TypeInfo.zero=some (.agg #[.bool false]):=by kernel_rfl
theorem gg:(Tryz.prog.info? 186).bind TypeInfo.zero=some (.agg #[.int .i64 0,.bool false,.bool false]):=by kernel_rfl
theorem gx:(Tryz.prog.info? 211).bind TypeInfo.zero=some .nilFunc:=by kernel_rfl
theorem dJ:FA Tryz.prog 106 0 0 0:=fun _ _=>by kernel_rfl
theorem bZ:FA Tryz.prog 106 1 0 1:=fun _ _=>by kernel_rfl
theorem aU:FA Tryz.prog 106 2 0 2:=fun _ _=>by kernel_rfl
theorem cO:FA Tryz.prog 109 0 0 0:=fun _ _=>by kernel_rfl
theorem bY:FA Tryz.prog 109 1 0 1:=fun _ _=>by kernel_rfl
theorem eI:FA Tryz.prog 127 0 0 0:=fun _ _=>by kernel_rfl
theorem eH:FA Tryz.prog 127 1 0 1:=fun _ _=>by kernel_rfl
theorem bX:FA Tryz.prog 127 2 0 3:=fun _ _=>by kernel_rfl
theorem dI:FA Tryz.prog 127 3 0 4:=fun _ _=>by kernel_rfl
theorem cN:FA Tryz.prog 127 4 0 5:=fun _ _=>by kernel_rfl
theorem bv:FA Tryz.prog 127 5 0 6:=fun _ _=>by kernel_rfl
theorem w9:FA Tryz.prog 139 0 0 0:=fun _ _=>by kernel_rfl
theorem t9:FA Tryz.prog 139 1 0 1:=fun _ _=>by kernel_rfl
theorem bu:FA Tryz.prog 139 2 0 2:=fun _ _=>by kernel_rfl
theorem aT:FA Tryz.prog 139 3 0 3:=fun _ _=>by kernel_rfl
theorem y6:FA Tryz.prog 141 0 0 0:=fun _ _=>by kernel_rfl
theorem af:FA Tryz.prog 141 1 0 4:=fun _ _=>by kernel_rfl
theorem ae:FA Tryz.prog 146 0 0 0:=fun _ _=>by kernel_rfl
theorem ao:FA Tryz.prog 146 1 0 1:=fun _ _=>by kernel_rfl
theorem dH:FA Tryz.prog 182 0 0 0:=fun _ _=>by kernel_rfl
theorem dG:FA Tryz.prog 182 1 0 1:=fun _ _=>by kernel_rfl
theorem fO:FA Tryz.prog 184 0 0 0:=fun _ _=>by kernel_rfl
theorem fN:FA Tryz.prog 186 0 0 0:=fun _ _=>by kernel_rfl
theorem dF:FA Tryz.prog 186 1 0 1:=fun _ _=>by kernel_rfl
theorem fM:FA Tryz.prog 186 2 0 2:=fun _ _=>by kernel_rfl
theorem fq:FA Tryz.prog 25 0 0 0:=fun _ _=>by kernel_rfl
theorem aA:FA Tryz.prog 25 1 0 1:=fun _ _=>by kernel_rfl
theorem fU:FA Tryz.prog 25 1 4 5:=fun _ _=>by kernel_rfl
theorem y8:FA Tryz.prog 28 0 0 0:=fun _ _=>by kernel_rfl
theorem v4:FA Tryz.prog 28 1 0 1:=fun _ _=>by kernel_rfl
theorem fp:FA Tryz.prog 28 1 1 2:=fun _ _=>by kernel_rfl
theorem cC:FA Tryz.prog 45 0 0 0:=fun _ _=>by kernel_rfl
theorem dg:FA Tryz.prog 45 1 0 1:=fun _ _=>by kernel_rfl
theorem fn:FA Tryz.prog 45 2 0 2:=fun _ _=>by kernel_rfl
theorem aS:FA Tryz.prog 45 3 0 3:=fun _ _=>by kernel_rfl
theorem eb:FA Tryz.prog 47 0 0 0:=fun _ _=>by kernel_rfl
theorem aQ:FA Tryz.prog 47 1 0 4:=fun _ _=>by kernel_rfl
theorem n8:FA Tryz.prog 64 0 0 0:=fun _ _=>by kernel_rfl
theorem y7:FA Tryz.prog 64 1 0 1:=fun _ _=>by kernel_rfl
theorem g8:FA Tryz.prog 64 2 0 2:=fun _ _=>by kernel_rfl
theorem g9:FA Tryz.prog 64 3 0 3:=fun _ _=>by kernel_rfl
theorem w7:FA Tryz.prog 64 4 0 4:=fun _ _=>by kernel_rfl
theorem u9:FA Tryz.prog 64 5 0 5:=fun _ _=>by kernel_rfl
theorem bW:FA Tryz.prog 66 0 0 0:=fun _ _=>by kernel_rfl
theorem cA:FA Tryz.prog 66 1 0 1:=fun _ _=>by kernel_rfl
theorem br:FA Tryz.prog 66 2 0 2:=fun _ _=>by kernel_rfl
theorem cz:FA Tryz.prog 69 0 0 0:=fun _ _=>by kernel_rfl
theorem bV:FA Tryz.prog 69 1 0 1:=fun _ _=>by kernel_rfl
theorem v5:FA Tryz.prog 71 0 0 0:=fun _ _=>by kernel_rfl
theorem u6:FA Tryz.prog 71 1 0 1:=fun _ _=>by kernel_rfl
theorem w8:FA Tryz.prog 71 2 0 2:=fun _ _=>by kernel_rfl
theorem r5:FA Tryz.prog 71 3 0 3:=fun _ _=>by kernel_rfl
theorem df:FA Tryz.prog 81 0 0 0:=fun _ _=>by kernel_rfl
theorem az:FA Tryz.prog 81 1 0 1:=fun _ _=>by kernel_rfl
theorem ea:FA Tryz.prog 81 2 0 2:=fun _ _=>by kernel_rfl
theorem fT:FA Tryz.prog 81 3 0 3:=fun _ _=>by kernel_rfl
theorem fS:FA Tryz.prog 81 4 0 4:=fun _ _=>by kernel_rfl
theorem fm:FA Tryz.prog 81 5 0 6:=fun _ _=>by kernel_rfl
theorem fl:FA Tryz.prog 83 0 0 0:=fun _ _=>by kernel_rfl
theorem fk:FA Tryz.prog 83 1 0 6:=fun _ _=>by kernel_rfl
theorem aP:FA Tryz.prog 83 2 0 7:=fun _ _=>by kernel_rfl
theorem eG:FA Tryz.prog 83 5 0 10:=fun _ _=>by kernel_rfl
theorem bq:FA Tryz.prog 93 0 0 0:=fun _ _=>by kernel_rfl
theorem ay:FA Tryz.prog 93 1 0 1:=fun _ _=>by kernel_rfl
theorem bU:FA Tryz.prog 93 2 0 2:=fun _ _=>by kernel_rfl
theorem iv182_fits:Invokes Tryz.prog 182 "searchlight/core.fits" 173:=fun _ _ _=>by kernel_rfl
theorem iv184_fits:Invokes Tryz.prog 184 "searchlight/core.fits" 174:=fun _ _ _=>by kernel_rfl
theorem iv186_fits:Invokes Tryz.prog 186 "searchlight/core.fits" 175:=fun _ _ _=>by kernel_rfl
theorem iv204_fits:Invokes Tryz.prog 204 "searchlight/core.fits" 176:=fun _ _ _=>by kernel_rfl
theorem hmix:Tryz.prog.follows .mixedOrders=true:=by kernel_rfl
open Go.Mir
def CDType:Nat→Kind DType
  |0=>Kind.no 2
  |n+1=>Kind.iso (Kind.pair Kind.str (Kind.pair (Kind.sl 40 (CDType n)) Kind.unit)) fun x=>(x.Name,x.Args,())
theorem CDType_sz:∀n,(CDType n).sz=2
  |0=>rfl
  |_+1=>rfl
def KDType:Kind DType:=Kind.lim CDType 2 CDType_sz
theorem CDType_mono:∀n {F:PH}{cs:List Value}{x:DType},(CDType n).R F cs x→(CDType (n+1)).R F cs x
  |0,_,_,_,h=>h.elim
  |n+1,F,cs,x,⟨_,_,e_0,g0,⟨_,_,e_1,⟨A0,c0,e0,h0⟩,u⟩⟩=>⟨_,_,e_0,g0,⟨_,_,e_1,⟨A0,c0,e0,h0.up (CDType_mono n) (by simp only [CDType_sz])⟩,u⟩⟩
theorem DType.opn {F:PH}{cs:List Value}{x:DType}(h:KDType.R F cs x):∃A0 c0,cs=[.string (bs x.Name),.slice A0 x.Args.length c0]∧Fsl 40 KDType F A0 c0 x.Args:=by
  obtain⟨n,h⟩:=h
  cases n with
  |zero=>exact h.elim
  |succ n=>
    obtain⟨_,_,rfl,rfl,⟨_,_,rfl,⟨A0,c0,rfl,h0⟩,rfl⟩⟩:=h
    exact⟨A0,c0,rfl,h0.up (fun h=>⟨n,h⟩) (CDType_sz n)⟩
theorem DType.shut {F:PH}{y0:List UInt8}{y1:List DType}{A0:Option Addr}{c0:Nat}(h0:Fsl 40 KDType F A0 c0 y1):KDType.R F [.string (bs y0),.slice A0 y1.length c0] (DType.mk y0 y1):=by
  obtain⟨n0,g0⟩:=Fsl.lim (fun n _ _ _ h=>CDType_mono n h) h0
  have h0:=g0.up (Kind.up_le (C:=CDType) (fun n _ _ _ h=>CDType_mono n h) (show n0≤n0 by omega)) (by simp only [CDType_sz])
  exact⟨n0+1,⟨_,_,rfl,rfl,⟨_,_,rfl,⟨_,_,rfl,h0⟩,rfl⟩⟩⟩
theorem DType.of {F:PH}{x:DType}{A0:Option Addr}{c0:Nat}(h0:Fsl 40 KDType F A0 c0 x.Args):KDType.R F [.string (bs x.Name),.slice A0 x.Args.length c0] x:=by
  cases x;exact DType.shut h0
def KDCon:Kind DCon:=Kind.iso (Kind.pair Kind.str (Kind.pair (Kind.sl 40 KDType) Kind.unit)) fun x=>(x.Name,x.Args,())
theorem DCon.opn {F:PH}{cs:List Value}{x:DCon}(h:KDCon.R F cs x):∃A0 c0,cs=[.string (bs x.Name),.slice A0 x.Args.length c0]∧Fsl 40 KDType F A0 c0 x.Args:=by
  obtain⟨_,_,rfl,rfl,⟨_,_,rfl,⟨A0,c0,rfl,h0⟩,rfl⟩⟩:=h
  exact⟨A0,c0,rfl,h0⟩
theorem DCon.shut {F:PH}{y0:List UInt8}{y1:List DType}{A0:Option Addr}{c0:Nat}(h0:Fsl 40 KDType F A0 c0 y1):KDCon.R F [.string (bs y0),.slice A0 y1.length c0] (DCon.mk y0 y1):=⟨_,_,rfl,rfl,⟨_,_,rfl,⟨_,_,rfl,h0⟩,rfl⟩⟩
theorem DCon.of {F:PH}{x:DCon}{A0:Option Addr}{c0:Nat}(h0:Fsl 40 KDType F A0 c0 x.Args):KDCon.R F [.string (bs x.Name),.slice A0 x.Args.length c0] x:=by
  cases x;exact DCon.shut h0
def KDData:Kind DData:=Kind.iso (Kind.pair Kind.str (Kind.pair (Kind.sl 16 Kind.str) (Kind.pair (Kind.sl 40 KDCon) Kind.unit))) fun x=>(x.Name,x.Vars,x.Cons,())
theorem DData.opn {F:PH}{cs:List Value}{x:DData}(h:KDData.R F cs x):∃A0 c0 A1 c1,cs=[.string (bs x.Name),.slice A0 x.Vars.length c0,.slice A1 x.Cons.length c1]∧Fsl 16 Kind.str F A0 c0 x.Vars∧Fsl 40 KDCon F A1 c1 x.Cons:=by
  obtain⟨_,_,rfl,rfl,⟨_,_,rfl,⟨A0,c0,rfl,h0⟩,⟨_,_,rfl,⟨A1,c1,rfl,h1⟩,rfl⟩⟩⟩:=h
  exact⟨A0,c0,A1,c1,rfl,h0,h1⟩
theorem DData.shut {F:PH}{y0:List UInt8}{y1:List (List UInt8)}{y2:List DCon}{A0:Option Addr}{c0:Nat}{A1:Option Addr}{c1:Nat}(h0:Fsl 16 Kind.str F A0 c0 y1) (h1:Fsl 40 KDCon F A1 c1 y2):KDData.R F [.string (bs y0),.slice A0 y1.length c0,.slice A1 y2.length c1] (DData.mk y0 y1 y2):=⟨_,_,rfl,rfl,⟨_,_,rfl,⟨_,_,rfl,h0⟩,⟨_,_,rfl,⟨_,_,rfl,h1⟩,rfl⟩⟩⟩
theorem DData.of {F:PH}{x:DData}{A0:Option Addr}{c0:Nat}{A1:Option Addr}{c1:Nat}(h0:Fsl 16 Kind.str F A0 c0 x.Vars) (h1:Fsl 40 KDCon F A1 c1 x.Cons):KDData.R F [.string (bs x.Name),.slice A0 x.Vars.length c0,.slice A1 x.Cons.length c1] x:=by
  cases x;exact DData.shut h0 h1
def CDPat:Nat→Kind DPat
  |0=>Kind.no 4
  |n+1=>Kind.iso (Kind.pair (Kind.int .i64) (Kind.pair Kind.str (Kind.pair (Kind.int .i64) (Kind.pair (Kind.sl 56 (CDPat n)) Kind.unit)))) fun x=>(x.Op,x.Name,x.N,x.Kids,())
theorem CDPat_sz:∀n,(CDPat n).sz=4
  |0=>rfl
  |_+1=>rfl
def KDPat:Kind DPat:=Kind.lim CDPat 4 CDPat_sz
theorem CDPat_mono:∀n {F:PH}{cs:List Value}{x:DPat},(CDPat n).R F cs x→(CDPat (n+1)).R F cs x
  |0,_,_,_,h=>h.elim
  |n+1,F,cs,x,⟨_,_,e_0,g0,⟨_,_,e_1,g1,⟨_,_,e_2,g2,⟨_,_,e_3,⟨A0,c0,e0,h0⟩,u⟩⟩⟩⟩=>⟨_,_,e_0,g0,⟨_,_,e_1,g1,⟨_,_,e_2,g2,⟨_,_,e_3,⟨A0,c0,e0,h0.up (CDPat_mono n) (by simp only [CDPat_sz])⟩,u⟩⟩⟩⟩
theorem DPat.opn {F:PH}{cs:List Value}{x:DPat}(h:KDPat.R F cs x):∃A0 c0,cs=[.int .i64 x.Op,.string (bs x.Name),.int .i64 x.N,.slice A0 x.Kids.length c0]∧Fsl 56 KDPat F A0 c0 x.Kids:=by
  obtain⟨n,h⟩:=h
  cases n with
  |zero=>exact h.elim
  |succ n=>
    obtain⟨_,_,rfl,rfl,⟨_,_,rfl,rfl,⟨_,_,rfl,rfl,⟨_,_,rfl,⟨A0,c0,rfl,h0⟩,rfl⟩⟩⟩⟩:=h
    exact⟨A0,c0,rfl,h0.up (fun h=>⟨n,h⟩) (CDPat_sz n)⟩
theorem DPat.shut {F:PH}{y0:Int}{y1:List UInt8}{y2:Int}{y3:List DPat}{A0:Option Addr}{c0:Nat}(h0:Fsl 56 KDPat F A0 c0 y3):KDPat.R F [.int .i64 y0,.string (bs y1),.int .i64 y2,.slice A0 y3.length c0] (DPat.mk y0 y1 y2 y3):=by
  obtain⟨n0,g0⟩:=Fsl.lim (fun n _ _ _ h=>CDPat_mono n h) h0
  have h0:=g0.up (Kind.up_le (C:=CDPat) (fun n _ _ _ h=>CDPat_mono n h) (show n0≤n0 by omega)) (by simp only [CDPat_sz])
  exact⟨n0+1,⟨_,_,rfl,rfl,⟨_,_,rfl,rfl,⟨_,_,rfl,rfl,⟨_,_,rfl,⟨_,_,rfl,h0⟩,rfl⟩⟩⟩⟩⟩
theorem DPat.of {F:PH}{x:DPat}{A0:Option Addr}{c0:Nat}(h0:Fsl 56 KDPat F A0 c0 x.Kids):KDPat.R F [.int .i64 x.Op,.string (bs x.Name),.int .i64 x.N,.slice A0 x.Kids.length c0] x:=by
  cases x;exact DPat.shut h0
def GDAlt (k:Kind DExpr):Kind DAlt:=Kind.iso (Kind.pair KDPat (Kind.pair k Kind.unit)) fun x=>(x.P,x.E,())
theorem GDAlt_up {k k':Kind DExpr}{F:PH}(hk:∀{cs x},k.R F cs x→k'.R F cs x) {cs:List Value}{x:DAlt}:(GDAlt k).R F cs x→(GDAlt k').R F cs x:=fun⟨_,_,e_0,g0,⟨_,_,e_1,g1,u⟩⟩=>⟨_,_,e_0,g0,⟨_,_,e_1,hk g1,u⟩⟩
theorem GDAlt_sz {k:Kind DExpr}:(GDAlt k).sz=(KDPat.sz+(k.sz+0)):=rfl
def CDExpr:Nat→Kind DExpr
  |0=>Kind.no 6
  |n+1=>Kind.iso (Kind.pair (Kind.int .i64) (Kind.pair Kind.str (Kind.pair (Kind.int .i64) (Kind.pair (Kind.sl 16 Kind.str) (Kind.pair (Kind.sl 104 (CDExpr n)) (Kind.pair (Kind.sl 160 (GDAlt (CDExpr n))) Kind.unit)))))) fun x=>(x.Op,x.Name,x.N,x.Names,x.Kids,x.Alts,())
theorem CDExpr_sz:∀n,(CDExpr n).sz=6
  |0=>rfl
  |_+1=>rfl
def KDExpr:Kind DExpr:=Kind.lim CDExpr 6 CDExpr_sz
def KDAlt:Kind DAlt:=GDAlt KDExpr
theorem CDExpr_mono:∀n {F:PH}{cs:List Value}{x:DExpr},(CDExpr n).R F cs x→(CDExpr (n+1)).R F cs x
  |0,_,_,_,h=>h.elim
  |n+1,F,cs,x,⟨_,_,e_0,g0,⟨_,_,e_1,g1,⟨_,_,e_2,g2,⟨_,_,e_3,g3,⟨_,_,e_4,⟨A0,c0,e0,h0⟩,⟨_,_,e_5,⟨A1,c1,e1,h1⟩,u⟩⟩⟩⟩⟩⟩=>⟨_,_,e_0,g0,⟨_,_,e_1,g1,⟨_,_,e_2,g2,⟨_,_,e_3,g3,⟨_,_,e_4,⟨A0,c0,e0,h0.up (CDExpr_mono n) (by simp only [CDExpr_sz])⟩,⟨_,_,e_5,⟨A1,c1,e1,h1.up (GDAlt_up (CDExpr_mono n)) (by simp only [GDAlt_sz,CDExpr_sz])⟩,u⟩⟩⟩⟩⟩⟩
theorem GDAlt_lim {b:Nat}{F:PH}{A:Option Addr}{c:Nat}{xs:List DAlt}(h:Fsl b KDAlt F A c xs):∃n,Fsl b (GDAlt (CDExpr n)) F A c xs:=
  Fsl.lim (C:=fun n=>GDAlt (CDExpr n)) (sz:=KDAlt.sz) (hsz:=fun n=>(GDAlt_sz (k:=CDExpr n)).trans (by rw [CDExpr_sz];rfl)) (fun n _ _ _ h=>GDAlt_up (CDExpr_mono n) h) (h.up (K':=Kind.lim (fun n=>GDAlt (CDExpr n)) KDAlt.sz _) (fun⟨_,_,e_0,g0,⟨_,_,e_1,⟨n,g1⟩,u⟩⟩=>⟨n,⟨_,_,e_0,g0,⟨_,_,e_1,g1,u⟩⟩⟩) rfl)
theorem DExpr.opn {F:PH}{cs:List Value}{x:DExpr}(h:KDExpr.R F cs x):∃A0 c0 A1 c1 A2 c2,cs=[.int .i64 x.Op,.string (bs x.Name),.int .i64 x.N,.slice A0 x.Names.length c0,.slice A1 x.Kids.length c1,.slice A2 x.Alts.length c2]∧Fsl 16 Kind.str F A0 c0 x.Names∧Fsl 104 KDExpr F A1 c1 x.Kids∧Fsl 160 KDAlt F A2 c2 x.Alts:=by
  obtain⟨n,h⟩:=h
  cases n with
  |zero=>exact h.elim
  |succ n=>
    obtain⟨_,_,rfl,rfl,⟨_,_,rfl,rfl,⟨_,_,rfl,rfl,⟨_,_,rfl,⟨A0,c0,rfl,h0⟩,⟨_,_,rfl,⟨A1,c1,rfl,h1⟩,⟨_,_,rfl,⟨A2,c2,rfl,h2⟩,rfl⟩⟩⟩⟩⟩⟩:=h
    exact⟨A0,c0,A1,c1,A2,c2,rfl,h0,h1.up (fun h=>⟨n,h⟩) (CDExpr_sz n),h2.up (K':=KDAlt) (GDAlt_up (k':=KDExpr) fun h=>⟨n,h⟩) ((GDAlt_sz (k:=CDExpr n)).trans (by rw [CDExpr_sz];rfl))⟩
theorem DExpr.shut {F:PH}{y0:Int}{y1:List UInt8}{y2:Int}{y3:List (List UInt8)}{y4:List DExpr}{y5:List DAlt}{A0:Option Addr}{c0:Nat}{A1:Option Addr}{c1:Nat}{A2:Option Addr}{c2:Nat}(h0:Fsl 16 Kind.str F A0 c0 y3) (h1:Fsl 104 KDExpr F A1 c1 y4) (h2:Fsl 160 KDAlt F A2 c2 y5):KDExpr.R F [.int .i64 y0,.string (bs y1),.int .i64 y2,.slice A0 y3.length c0,.slice A1 y4.length c1,.slice A2 y5.length c2] (DExpr.mk y0 y1 y2 y3 y4 y5):=by
  obtain⟨n1,g1⟩:=Fsl.lim (fun n _ _ _ h=>CDExpr_mono n h) h1
  obtain⟨n2,g2⟩:=GDAlt_lim h2
  have h1:=g1.up (Kind.up_le (C:=CDExpr) (fun n _ _ _ h=>CDExpr_mono n h) (show n1≤(max n1 n2) by omega)) (by simp only [CDExpr_sz])
  have h2:=g2.up (K':=GDAlt (CDExpr (max n1 n2))) (GDAlt_up (Kind.up_le (C:=CDExpr) (fun n _ _ _ h=>CDExpr_mono n h) (show n2≤(max n1 n2) by omega))) (by simp only [GDAlt_sz,CDExpr_sz])
  exact⟨(max n1 n2)+1,⟨_,_,rfl,rfl,⟨_,_,rfl,rfl,⟨_,_,rfl,rfl,⟨_,_,rfl,⟨_,_,rfl,h0⟩,⟨_,_,rfl,⟨_,_,rfl,h1⟩,⟨_,_,rfl,⟨_,_,rfl,h2⟩,rfl⟩⟩⟩⟩⟩⟩⟩
theorem DExpr.of {F:PH}{x:DExpr}{A0:Option Addr}{c0:Nat}{A1:Option Addr}{c1:Nat}{A2:Option Addr}{c2:Nat}(h0:Fsl 16 Kind.str F A0 c0 x.Names) (h1:Fsl 104 KDExpr F A1 c1 x.Kids) (h2:Fsl 160 KDAlt F A2 c2 x.Alts):KDExpr.R F [.int .i64 x.Op,.string (bs x.Name),.int .i64 x.N,.slice A0 x.Names.length c0,.slice A1 x.Kids.length c1,.slice A2 x.Alts.length c2] x:=by
  cases x;exact DExpr.shut h0 h1 h2
theorem DAlt.opn {F:PH}{cs:List Value}{x:DAlt}(h:KDAlt.R F cs x):∃A0 c0 A1 c1 A2 c2 A3 c3,cs=[.int .i64 x.P.Op,.string (bs x.P.Name),.int .i64 x.P.N,.slice A0 x.P.Kids.length c0,.int .i64 x.E.Op,.string (bs x.E.Name),.int .i64 x.E.N,.slice A1 x.E.Names.length c1,.slice A2 x.E.Kids.length c2,.slice A3 x.E.Alts.length c3]∧Fsl 56 KDPat F A0 c0 x.P.Kids∧Fsl 16 Kind.str F A1 c1 x.E.Names∧Fsl 104 KDExpr F A2 c2 x.E.Kids∧Fsl 160 KDAlt F A3 c3 x.E.Alts:=by
  obtain⟨_,_,rfl,g0,⟨_,_,rfl,g1,rfl⟩⟩:=h
  obtain⟨A0,c0,rfl,h0⟩:=DPat.opn g0
  obtain⟨A1,c1,A2,c2,A3,c3,rfl,h1,h2,h3⟩:=DExpr.opn g1
  exact⟨A0,c0,A1,c1,A2,c2,A3,c3,rfl,h0,h1,h2,h3⟩
theorem DAlt.shut {F:PH}{y0:DPat}{y1:DExpr}{A0:Option Addr}{c0:Nat}{A1:Option Addr}{c1:Nat}{A2:Option Addr}{c2:Nat}{A3:Option Addr}{c3:Nat}(h0:Fsl 56 KDPat F A0 c0 y0.Kids) (h1:Fsl 16 Kind.str F A1 c1 y1.Names) (h2:Fsl 104 KDExpr F A2 c2 y1.Kids) (h3:Fsl 160 KDAlt F A3 c3 y1.Alts):KDAlt.R F [.int .i64 y0.Op,.string (bs y0.Name),.int .i64 y0.N,.slice A0 y0.Kids.length c0,.int .i64 y1.Op,.string (bs y1.Name),.int .i64 y1.N,.slice A1 y1.Names.length c1,.slice A2 y1.Kids.length c2,.slice A3 y1.Alts.length c3] (DAlt.mk y0 y1):=⟨_,_,rfl,DPat.of h0,⟨_,_,rfl,DExpr.of h1 h2 h3,rfl⟩⟩
theorem DAlt.of {F:PH}{x:DAlt}{A0:Option Addr}{c0:Nat}{A1:Option Addr}{c1:Nat}{A2:Option Addr}{c2:Nat}{A3:Option Addr}{c3:Nat}(h0:Fsl 56 KDPat F A0 c0 x.P.Kids) (h1:Fsl 16 Kind.str F A1 c1 x.E.Names) (h2:Fsl 104 KDExpr F A2 c2 x.E.Kids) (h3:Fsl 160 KDAlt F A3 c3 x.E.Alts):KDAlt.R F [.int .i64 x.P.Op,.string (bs x.P.Name),.int .i64 x.P.N,.slice A0 x.P.Kids.length c0,.int .i64 x.E.Op,.string (bs x.E.Name),.int .i64 x.E.N,.slice A1 x.E.Names.length c1,.slice A2 x.E.Kids.length c2,.slice A3 x.E.Alts.length c3] x:=by
  cases x;exact DAlt.shut h0 h1 h2 h3
def KDFun:Kind DFun:=Kind.iso (Kind.pair Kind.str (Kind.pair (Kind.sl 16 Kind.str) (Kind.pair KDExpr Kind.unit))) fun x=>(x.Name,x.Vars,x.E,())
theorem DFun.opn {F:PH}{cs:List Value}{x:DFun}(h:KDFun.R F cs x):∃A0 c0 A1 c1 A2 c2 A3 c3,cs=[.string (bs x.Name),.slice A0 x.Vars.length c0,.int .i64 x.E.Op,.string (bs x.E.Name),.int .i64 x.E.N,.slice A1 x.E.Names.length c1,.slice A2 x.E.Kids.length c2,.slice A3 x.E.Alts.length c3]∧Fsl 16 Kind.str F A0 c0 x.Vars∧Fsl 16 Kind.str F A1 c1 x.E.Names∧Fsl 104 KDExpr F A2 c2 x.E.Kids∧Fsl 160 KDAlt F A3 c3 x.E.Alts:=by
  obtain⟨_,_,rfl,rfl,⟨_,_,rfl,⟨A0,c0,rfl,h0⟩,⟨_,_,rfl,g0,rfl⟩⟩⟩:=h
  obtain⟨A1,c1,A2,c2,A3,c3,rfl,h1,h2,h3⟩:=DExpr.opn g0
  exact⟨A0,c0,A1,c1,A2,c2,A3,c3,rfl,h0,h1,h2,h3⟩
theorem DFun.shut {F:PH}{y0:List UInt8}{y1:List (List UInt8)}{y2:DExpr}{A0:Option Addr}{c0:Nat}{A1:Option Addr}{c1:Nat}{A2:Option Addr}{c2:Nat}{A3:Option Addr}{c3:Nat}(h0:Fsl 16 Kind.str F A0 c0 y1) (h1:Fsl 16 Kind.str F A1 c1 y2.Names) (h2:Fsl 104 KDExpr F A2 c2 y2.Kids) (h3:Fsl 160 KDAlt F A3 c3 y2.Alts):KDFun.R F [.string (bs y0),.slice A0 y1.length c0,.int .i64 y2.Op,.string (bs y2.Name),.int .i64 y2.N,.slice A1 y2.Names.length c1,.slice A2 y2.Kids.length c2,.slice A3 y2.Alts.length c3] (DFun.mk y0 y1 y2):=⟨_,_,rfl,rfl,⟨_,_,rfl,⟨_,_,rfl,h0⟩,⟨_,_,rfl,DExpr.of h1 h2 h3,rfl⟩⟩⟩
theorem DFun.of {F:PH}{x:DFun}{A0:Option Addr}{c0:Nat}{A1:Option Addr}{c1:Nat}{A2:Option Addr}{c2:Nat}{A3:Option Addr}{c3:Nat}(h0:Fsl 16 Kind.str F A0 c0 x.Vars) (h1:Fsl 16 Kind.str F A1 c1 x.E.Names) (h2:Fsl 104 KDExpr F A2 c2 x.E.Kids) (h3:Fsl 160 KDAlt F A3 c3 x.E.Alts):KDFun.R F [.string (bs x.Name),.slice A0 x.Vars.length c0,.int .i64 x.E.Op,.string (bs x.E.Name),.int .i64 x.E.N,.slice A1 x.E.Names.length c1,.slice A2 x.E.Kids.length c2,.slice A3 x.E.Alts.length c3] x:=by
  cases x;exact DFun.shut h0 h1 h2 h3
def KDNode:Kind DNode:=Kind.iso (Kind.pair (Kind.int .i64) (Kind.pair Kind.str (Kind.pair (Kind.int .i64) (Kind.pair (Kind.sl 8 (Kind.int .i64)) Kind.unit)))) fun x=>(x.Op,x.Name,x.N,x.Kids,())
theorem DNode.opn {F:PH}{cs:List Value}{x:DNode}(h:KDNode.R F cs x):∃A0 c0,cs=[.int .i64 x.Op,.string (bs x.Name),.int .i64 x.N,.slice A0 x.Kids.length c0]∧Fsl 8 (Kind.int .i64) F A0 c0 x.Kids:=by
  obtain⟨_,_,rfl,rfl,⟨_,_,rfl,rfl,⟨_,_,rfl,rfl,⟨_,_,rfl,⟨A0,c0,rfl,h0⟩,rfl⟩⟩⟩⟩:=h
  exact⟨A0,c0,rfl,h0⟩
theorem DNode.shut {F:PH}{y0:Int}{y1:List UInt8}{y2:Int}{y3:List Int}{A0:Option Addr}{c0:Nat}(h0:Fsl 8 (Kind.int .i64) F A0 c0 y3):KDNode.R F [.int .i64 y0,.string (bs y1),.int .i64 y2,.slice A0 y3.length c0] (DNode.mk y0 y1 y2 y3):=⟨_,_,rfl,rfl,⟨_,_,rfl,rfl,⟨_,_,rfl,rfl,⟨_,_,rfl,⟨_,_,rfl,h0⟩,rfl⟩⟩⟩⟩
theorem DNode.of {F:PH}{x:DNode}{A0:Option Addr}{c0:Nat}(h0:Fsl 8 (Kind.int .i64) F A0 c0 x.Kids):KDNode.R F [.int .i64 x.Op,.string (bs x.Name),.int .i64 x.N,.slice A0 x.Kids.length c0] x:=by
  cases x;exact DNode.shut h0
def KDCore:Kind DCore:=Kind.iso (Kind.pair (Kind.sl 64 KDData) (Kind.pair (Kind.sl 144 KDFun) Kind.unit)) fun x=>(x.Datas,x.Funs,())
theorem DCore.opn {F:PH}{cs:List Value}{x:DCore}(h:KDCore.R F cs x):∃A0 c0 A1 c1,cs=[.slice A0 x.Datas.length c0,.slice A1 x.Funs.length c1]∧Fsl 64 KDData F A0 c0 x.Datas∧Fsl 144 KDFun F A1 c1 x.Funs:=by
  obtain⟨_,_,rfl,⟨A0,c0,rfl,h0⟩,⟨_,_,rfl,⟨A1,c1,rfl,h1⟩,rfl⟩⟩:=h
  exact⟨A0,c0,A1,c1,rfl,h0,h1⟩
theorem DCore.shut {F:PH}{y0:List DData}{y1:List DFun}{A0:Option Addr}{c0:Nat}{A1:Option Addr}{c1:Nat}(h0:Fsl 64 KDData F A0 c0 y0) (h1:Fsl 144 KDFun F A1 c1 y1):KDCore.R F [.slice A0 y0.length c0,.slice A1 y1.length c1] (DCore.mk y0 y1):=⟨_,_,rfl,⟨_,_,rfl,h0⟩,⟨_,_,rfl,⟨_,_,rfl,h1⟩,rfl⟩⟩
theorem DCore.of {F:PH}{x:DCore}{A0:Option Addr}{c0:Nat}{A1:Option Addr}{c1:Nat}(h0:Fsl 64 KDData F A0 c0 x.Datas) (h1:Fsl 144 KDFun F A1 c1 x.Funs):KDCore.R F [.slice A0 x.Datas.length c0,.slice A1 x.Funs.length c1] x:=by
  cases x;exact DCore.shut h0 h1
def KDGraph:Kind DGraph:=Kind.iso (Kind.pair (Kind.int .i64) (Kind.pair (Kind.sl 56 KDNode) Kind.unit)) fun x=>(x.Root,x.Nodes,())
theorem DGraph.opn {F:PH}{cs:List Value}{x:DGraph}(h:KDGraph.R F cs x):∃A0 c0,cs=[.int .i64 x.Root,.slice A0 x.Nodes.length c0]∧Fsl 56 KDNode F A0 c0 x.Nodes:=by
  obtain⟨_,_,rfl,rfl,⟨_,_,rfl,⟨A0,c0,rfl,h0⟩,rfl⟩⟩:=h
  exact⟨A0,c0,rfl,h0⟩
theorem DGraph.shut {F:PH}{y0:Int}{y1:List DNode}{A0:Option Addr}{c0:Nat}(h0:Fsl 56 KDNode F A0 c0 y1):KDGraph.R F [.int .i64 y0,.slice A0 y1.length c0] (DGraph.mk y0 y1):=⟨_,_,rfl,rfl,⟨_,_,rfl,⟨_,_,rfl,h0⟩,rfl⟩⟩
theorem DGraph.of {F:PH}{x:DGraph}{A0:Option Addr}{c0:Nat}(h0:Fsl 56 KDNode F A0 c0 x.Nodes):KDGraph.R F [.int .i64 x.Root,.slice A0 x.Nodes.length c0] x:=by
  cases x;exact DGraph.shut h0
def KDPred:Kind DPred:=Kind.iso (Kind.pair Kind.str (Kind.pair KDType Kind.unit)) fun x=>(x.Class,x.T,())
theorem DPred.opn {F:PH}{cs:List Value}{x:DPred}(h:KDPred.R F cs x):∃A0 c0,cs=[.string (bs x.Class),.string (bs x.T.Name),.slice A0 x.T.Args.length c0]∧Fsl 40 KDType F A0 c0 x.T.Args:=by
  obtain⟨_,_,rfl,rfl,⟨_,_,rfl,g0,rfl⟩⟩:=h
  obtain⟨A0,c0,rfl,h0⟩:=DType.opn g0
  exact⟨A0,c0,rfl,h0⟩
theorem DPred.shut {F:PH}{y0:List UInt8}{y1:DType}{A0:Option Addr}{c0:Nat}(h0:Fsl 40 KDType F A0 c0 y1.Args):KDPred.R F [.string (bs y0),.string (bs y1.Name),.slice A0 y1.Args.length c0] (DPred.mk y0 y1):=⟨_,_,rfl,rfl,⟨_,_,rfl,DType.of h0,rfl⟩⟩
theorem DPred.of {F:PH}{x:DPred}{A0:Option Addr}{c0:Nat}(h0:Fsl 40 KDType F A0 c0 x.T.Args):KDPred.R F [.string (bs x.Class),.string (bs x.T.Name),.slice A0 x.T.Args.length c0] x:=by
  cases x;exact DPred.shut h0
def KDSig:Kind DSig:=Kind.iso (Kind.pair Kind.str (Kind.pair (Kind.sl 56 KDPred) (Kind.pair KDType Kind.unit))) fun x=>(x.Name,x.Preds,x.T,())
theorem DSig.opn {F:PH}{cs:List Value}{x:DSig}(h:KDSig.R F cs x):∃A0 c0 A1 c1,cs=[.string (bs x.Name),.slice A0 x.Preds.length c0,.string (bs x.T.Name),.slice A1 x.T.Args.length c1]∧Fsl 56 KDPred F A0 c0 x.Preds∧Fsl 40 KDType F A1 c1 x.T.Args:=by
  obtain⟨_,_,rfl,rfl,⟨_,_,rfl,⟨A0,c0,rfl,h0⟩,⟨_,_,rfl,g0,rfl⟩⟩⟩:=h
  obtain⟨A1,c1,rfl,h1⟩:=DType.opn g0
  exact⟨A0,c0,A1,c1,rfl,h0,h1⟩
theorem DSig.shut {F:PH}{y0:List UInt8}{y1:List DPred}{y2:DType}{A0:Option Addr}{c0:Nat}{A1:Option Addr}{c1:Nat}(h0:Fsl 56 KDPred F A0 c0 y1) (h1:Fsl 40 KDType F A1 c1 y2.Args):KDSig.R F [.string (bs y0),.slice A0 y1.length c0,.string (bs y2.Name),.slice A1 y2.Args.length c1] (DSig.mk y0 y1 y2):=⟨_,_,rfl,rfl,⟨_,_,rfl,⟨_,_,rfl,h0⟩,⟨_,_,rfl,DType.of h1,rfl⟩⟩⟩
theorem DSig.of {F:PH}{x:DSig}{A0:Option Addr}{c0:Nat}{A1:Option Addr}{c1:Nat}(h0:Fsl 56 KDPred F A0 c0 x.Preds) (h1:Fsl 40 KDType F A1 c1 x.T.Args):KDSig.R F [.string (bs x.Name),.slice A0 x.Preds.length c0,.string (bs x.T.Name),.slice A1 x.T.Args.length c1] x:=by
  cases x;exact DSig.shut h0 h1
def KDClass:Kind DClass:=Kind.iso (Kind.pair Kind.str (Kind.pair (Kind.sl 16 Kind.str) (Kind.pair (Kind.sl 80 KDSig) Kind.unit))) fun x=>(x.Name,x.Supers,x.Ops,())
theorem DClass.opn {F:PH}{cs:List Value}{x:DClass}(h:KDClass.R F cs x):∃A0 c0 A1 c1,cs=[.string (bs x.Name),.slice A0 x.Supers.length c0,.slice A1 x.Ops.length c1]∧Fsl 16 Kind.str F A0 c0 x.Supers∧Fsl 80 KDSig F A1 c1 x.Ops:=by
  obtain⟨_,_,rfl,rfl,⟨_,_,rfl,⟨A0,c0,rfl,h0⟩,⟨_,_,rfl,⟨A1,c1,rfl,h1⟩,rfl⟩⟩⟩:=h
  exact⟨A0,c0,A1,c1,rfl,h0,h1⟩
theorem DClass.shut {F:PH}{y0:List UInt8}{y1:List (List UInt8)}{y2:List DSig}{A0:Option Addr}{c0:Nat}{A1:Option Addr}{c1:Nat}(h0:Fsl 16 Kind.str F A0 c0 y1) (h1:Fsl 80 KDSig F A1 c1 y2):KDClass.R F [.string (bs y0),.slice A0 y1.length c0,.slice A1 y2.length c1] (DClass.mk y0 y1 y2):=⟨_,_,rfl,rfl,⟨_,_,rfl,⟨_,_,rfl,h0⟩,⟨_,_,rfl,⟨_,_,rfl,h1⟩,rfl⟩⟩⟩
theorem DClass.of {F:PH}{x:DClass}{A0:Option Addr}{c0:Nat}{A1:Option Addr}{c1:Nat}(h0:Fsl 16 Kind.str F A0 c0 x.Supers) (h1:Fsl 80 KDSig F A1 c1 x.Ops):KDClass.R F [.string (bs x.Name),.slice A0 x.Supers.length c0,.slice A1 x.Ops.length c1] x:=by
  cases x;exact DClass.shut h0 h1
def KDGuard:Kind DGuard:=Kind.iso (Kind.pair KDExpr (Kind.pair KDExpr Kind.unit)) fun x=>(x.C,x.E,())
theorem DGuard.opn {F:PH}{cs:List Value}{x:DGuard}(h:KDGuard.R F cs x):∃A0 c0 A1 c1 A2 c2 A3 c3 A4 c4 A5 c5,cs=[.int .i64 x.C.Op,.string (bs x.C.Name),.int .i64 x.C.N,.slice A0 x.C.Names.length c0,.slice A1 x.C.Kids.length c1,.slice A2 x.C.Alts.length c2,.int .i64 x.E.Op,.string (bs x.E.Name),.int .i64 x.E.N,.slice A3 x.E.Names.length c3,.slice A4 x.E.Kids.length c4,.slice A5 x.E.Alts.length c5]∧Fsl 16 Kind.str F A0 c0 x.C.Names∧Fsl 104 KDExpr F A1 c1 x.C.Kids∧Fsl 160 KDAlt F A2 c2 x.C.Alts∧Fsl 16 Kind.str F A3 c3 x.E.Names∧Fsl 104 KDExpr F A4 c4 x.E.Kids∧Fsl 160 KDAlt F A5 c5 x.E.Alts:=by
  obtain⟨_,_,rfl,g0,⟨_,_,rfl,g1,rfl⟩⟩:=h
  obtain⟨A0,c0,A1,c1,A2,c2,rfl,h0,h1,h2⟩:=DExpr.opn g0
  obtain⟨A3,c3,A4,c4,A5,c5,rfl,h3,h4,h5⟩:=DExpr.opn g1
  exact⟨A0,c0,A1,c1,A2,c2,A3,c3,A4,c4,A5,c5,rfl,h0,h1,h2,h3,h4,h5⟩
theorem DGuard.shut {F:PH}{y0:DExpr}{y1:DExpr}{A0:Option Addr}{c0:Nat}{A1:Option Addr}{c1:Nat}{A2:Option Addr}{c2:Nat}{A3:Option Addr}{c3:Nat}{A4:Option Addr}{c4:Nat}{A5:Option Addr}{c5:Nat}(h0:Fsl 16 Kind.str F A0 c0 y0.Names) (h1:Fsl 104 KDExpr F A1 c1 y0.Kids) (h2:Fsl 160 KDAlt F A2 c2 y0.Alts) (h3:Fsl 16 Kind.str F A3 c3 y1.Names) (h4:Fsl 104 KDExpr F A4 c4 y1.Kids) (h5:Fsl 160 KDAlt F A5 c5 y1.Alts):KDGuard.R F [.int .i64 y0.Op,.string (bs y0.Name),.int .i64 y0.N,.slice A0 y0.Names.length c0,.slice A1 y0.Kids.length c1,.slice A2 y0.Alts.length c2,.int .i64 y1.Op,.string (bs y1.Name),.int .i64 y1.N,.slice A3 y1.Names.length c3,.slice A4 y1.Kids.length c4,.slice A5 y1.Alts.length c5] (DGuard.mk y0 y1):=⟨_,_,rfl,DExpr.of h0 h1 h2,⟨_,_,rfl,DExpr.of h3 h4 h5,rfl⟩⟩
theorem DGuard.of {F:PH}{x:DGuard}{A0:Option Addr}{c0:Nat}{A1:Option Addr}{c1:Nat}{A2:Option Addr}{c2:Nat}{A3:Option Addr}{c3:Nat}{A4:Option Addr}{c4:Nat}{A5:Option Addr}{c5:Nat}(h0:Fsl 16 Kind.str F A0 c0 x.C.Names) (h1:Fsl 104 KDExpr F A1 c1 x.C.Kids) (h2:Fsl 160 KDAlt F A2 c2 x.C.Alts) (h3:Fsl 16 Kind.str F A3 c3 x.E.Names) (h4:Fsl 104 KDExpr F A4 c4 x.E.Kids) (h5:Fsl 160 KDAlt F A5 c5 x.E.Alts):KDGuard.R F [.int .i64 x.C.Op,.string (bs x.C.Name),.int .i64 x.C.N,.slice A0 x.C.Names.length c0,.slice A1 x.C.Kids.length c1,.slice A2 x.C.Alts.length c2,.int .i64 x.E.Op,.string (bs x.E.Name),.int .i64 x.E.N,.slice A3 x.E.Names.length c3,.slice A4 x.E.Kids.length c4,.slice A5 x.E.Alts.length c5] x:=by
  cases x;exact DGuard.shut h0 h1 h2 h3 h4 h5
def KDBind:Kind DBind:=Kind.iso (Kind.pair Kind.str (Kind.pair KDExpr Kind.unit)) fun x=>(x.Name,x.E,())
theorem DBind.opn {F:PH}{cs:List Value}{x:DBind}(h:KDBind.R F cs x):∃A0 c0 A1 c1 A2 c2,cs=[.string (bs x.Name),.int .i64 x.E.Op,.string (bs x.E.Name),.int .i64 x.E.N,.slice A0 x.E.Names.length c0,.slice A1 x.E.Kids.length c1,.slice A2 x.E.Alts.length c2]∧Fsl 16 Kind.str F A0 c0 x.E.Names∧Fsl 104 KDExpr F A1 c1 x.E.Kids∧Fsl 160 KDAlt F A2 c2 x.E.Alts:=by
  obtain⟨_,_,rfl,rfl,⟨_,_,rfl,g0,rfl⟩⟩:=h
  obtain⟨A0,c0,A1,c1,A2,c2,rfl,h0,h1,h2⟩:=DExpr.opn g0
  exact⟨A0,c0,A1,c1,A2,c2,rfl,h0,h1,h2⟩
theorem DBind.shut {F:PH}{y0:List UInt8}{y1:DExpr}{A0:Option Addr}{c0:Nat}{A1:Option Addr}{c1:Nat}{A2:Option Addr}{c2:Nat}(h0:Fsl 16 Kind.str F A0 c0 y1.Names) (h1:Fsl 104 KDExpr F A1 c1 y1.Kids) (h2:Fsl 160 KDAlt F A2 c2 y1.Alts):KDBind.R F [.string (bs y0),.int .i64 y1.Op,.string (bs y1.Name),.int .i64 y1.N,.slice A0 y1.Names.length c0,.slice A1 y1.Kids.length c1,.slice A2 y1.Alts.length c2] (DBind.mk y0 y1):=⟨_,_,rfl,rfl,⟨_,_,rfl,DExpr.of h0 h1 h2,rfl⟩⟩
theorem DBind.of {F:PH}{x:DBind}{A0:Option Addr}{c0:Nat}{A1:Option Addr}{c1:Nat}{A2:Option Addr}{c2:Nat}(h0:Fsl 16 Kind.str F A0 c0 x.E.Names) (h1:Fsl 104 KDExpr F A1 c1 x.E.Kids) (h2:Fsl 160 KDAlt F A2 c2 x.E.Alts):KDBind.R F [.string (bs x.Name),.int .i64 x.E.Op,.string (bs x.E.Name),.int .i64 x.E.N,.slice A0 x.E.Names.length c0,.slice A1 x.E.Kids.length c1,.slice A2 x.E.Alts.length c2] x:=by
  cases x;exact DBind.shut h0 h1 h2
def KDRule:Kind DRule:=Kind.iso (Kind.pair Kind.str (Kind.pair (Kind.sl 56 KDPat) (Kind.pair (Kind.sl 208 KDGuard) (Kind.pair (Kind.sl 120 KDBind) Kind.unit)))) fun x=>(x.Name,x.Pats,x.Guards,x.Where,())
theorem DRule.opn {F:PH}{cs:List Value}{x:DRule}(h:KDRule.R F cs x):∃A0 c0 A1 c1 A2 c2,cs=[.string (bs x.Name),.slice A0 x.Pats.length c0,.slice A1 x.Guards.length c1,.slice A2 x.Where.length c2]∧Fsl 56 KDPat F A0 c0 x.Pats∧Fsl 208 KDGuard F A1 c1 x.Guards∧Fsl 120 KDBind F A2 c2 x.Where:=by
  obtain⟨_,_,rfl,rfl,⟨_,_,rfl,⟨A0,c0,rfl,h0⟩,⟨_,_,rfl,⟨A1,c1,rfl,h1⟩,⟨_,_,rfl,⟨A2,c2,rfl,h2⟩,rfl⟩⟩⟩⟩:=h
  exact⟨A0,c0,A1,c1,A2,c2,rfl,h0,h1,h2⟩
theorem DRule.shut {F:PH}{y0:List UInt8}{y1:List DPat}{y2:List DGuard}{y3:List DBind}{A0:Option Addr}{c0:Nat}{A1:Option Addr}{c1:Nat}{A2:Option Addr}{c2:Nat}(h0:Fsl 56 KDPat F A0 c0 y1) (h1:Fsl 208 KDGuard F A1 c1 y2) (h2:Fsl 120 KDBind F A2 c2 y3):KDRule.R F [.string (bs y0),.slice A0 y1.length c0,.slice A1 y2.length c1,.slice A2 y3.length c2] (DRule.mk y0 y1 y2 y3):=⟨_,_,rfl,rfl,⟨_,_,rfl,⟨_,_,rfl,h0⟩,⟨_,_,rfl,⟨_,_,rfl,h1⟩,⟨_,_,rfl,⟨_,_,rfl,h2⟩,rfl⟩⟩⟩⟩
theorem DRule.of {F:PH}{x:DRule}{A0:Option Addr}{c0:Nat}{A1:Option Addr}{c1:Nat}{A2:Option Addr}{c2:Nat}(h0:Fsl 56 KDPat F A0 c0 x.Pats) (h1:Fsl 208 KDGuard F A1 c1 x.Guards) (h2:Fsl 120 KDBind F A2 c2 x.Where):KDRule.R F [.string (bs x.Name),.slice A0 x.Pats.length c0,.slice A1 x.Guards.length c1,.slice A2 x.Where.length c2] x:=by
  cases x;exact DRule.shut h0 h1 h2
def KDInst:Kind DInst:=Kind.iso (Kind.pair Kind.str (Kind.pair Kind.str (Kind.pair (Kind.sl 56 KDPred) (Kind.pair (Kind.sl 88 KDRule) Kind.unit)))) fun x=>(x.Class,x.Data,x.Preds,x.Rules,())
theorem DInst.opn {F:PH}{cs:List Value}{x:DInst}(h:KDInst.R F cs x):∃A0 c0 A1 c1,cs=[.string (bs x.Class),.string (bs x.Data),.slice A0 x.Preds.length c0,.slice A1 x.Rules.length c1]∧Fsl 56 KDPred F A0 c0 x.Preds∧Fsl 88 KDRule F A1 c1 x.Rules:=by
  obtain⟨_,_,rfl,rfl,⟨_,_,rfl,rfl,⟨_,_,rfl,⟨A0,c0,rfl,h0⟩,⟨_,_,rfl,⟨A1,c1,rfl,h1⟩,rfl⟩⟩⟩⟩:=h
  exact⟨A0,c0,A1,c1,rfl,h0,h1⟩
theorem DInst.shut {F:PH}{y0:List UInt8}{y1:List UInt8}{y2:List DPred}{y3:List DRule}{A0:Option Addr}{c0:Nat}{A1:Option Addr}{c1:Nat}(h0:Fsl 56 KDPred F A0 c0 y2) (h1:Fsl 88 KDRule F A1 c1 y3):KDInst.R F [.string (bs y0),.string (bs y1),.slice A0 y2.length c0,.slice A1 y3.length c1] (DInst.mk y0 y1 y2 y3):=⟨_,_,rfl,rfl,⟨_,_,rfl,rfl,⟨_,_,rfl,⟨_,_,rfl,h0⟩,⟨_,_,rfl,⟨_,_,rfl,h1⟩,rfl⟩⟩⟩⟩
theorem DInst.of {F:PH}{x:DInst}{A0:Option Addr}{c0:Nat}{A1:Option Addr}{c1:Nat}(h0:Fsl 56 KDPred F A0 c0 x.Preds) (h1:Fsl 88 KDRule F A1 c1 x.Rules):KDInst.R F [.string (bs x.Class),.string (bs x.Data),.slice A0 x.Preds.length c0,.slice A1 x.Rules.length c1] x:=by
  cases x;exact DInst.shut h0 h1
def KDDecls:Kind DDecls:=Kind.iso (Kind.pair (Kind.sl 64 KDData) (Kind.pair (Kind.sl 64 KDClass) (Kind.pair (Kind.sl 80 KDInst) Kind.unit))) fun x=>(x.Datas,x.Classes,x.Insts,())
theorem DDecls.opn {F:PH}{cs:List Value}{x:DDecls}(h:KDDecls.R F cs x):∃A0 c0 A1 c1 A2 c2,cs=[.slice A0 x.Datas.length c0,.slice A1 x.Classes.length c1,.slice A2 x.Insts.length c2]∧Fsl 64 KDData F A0 c0 x.Datas∧Fsl 64 KDClass F A1 c1 x.Classes∧Fsl 80 KDInst F A2 c2 x.Insts:=by
  obtain⟨_,_,rfl,⟨A0,c0,rfl,h0⟩,⟨_,_,rfl,⟨A1,c1,rfl,h1⟩,⟨_,_,rfl,⟨A2,c2,rfl,h2⟩,rfl⟩⟩⟩:=h
  exact⟨A0,c0,A1,c1,A2,c2,rfl,h0,h1,h2⟩
theorem DDecls.shut {F:PH}{y0:List DData}{y1:List DClass}{y2:List DInst}{A0:Option Addr}{c0:Nat}{A1:Option Addr}{c1:Nat}{A2:Option Addr}{c2:Nat}(h0:Fsl 64 KDData F A0 c0 y0) (h1:Fsl 64 KDClass F A1 c1 y1) (h2:Fsl 80 KDInst F A2 c2 y2):KDDecls.R F [.slice A0 y0.length c0,.slice A1 y1.length c1,.slice A2 y2.length c2] (DDecls.mk y0 y1 y2):=⟨_,_,rfl,⟨_,_,rfl,h0⟩,⟨_,_,rfl,⟨_,_,rfl,h1⟩,⟨_,_,rfl,⟨_,_,rfl,h2⟩,rfl⟩⟩⟩
theorem DDecls.of {F:PH}{x:DDecls}{A0:Option Addr}{c0:Nat}{A1:Option Addr}{c1:Nat}{A2:Option Addr}{c2:Nat}(h0:Fsl 64 KDData F A0 c0 x.Datas) (h1:Fsl 64 KDClass F A1 c1 x.Classes) (h2:Fsl 80 KDInst F A2 c2 x.Insts):KDDecls.R F [.slice A0 x.Datas.length c0,.slice A1 x.Classes.length c1,.slice A2 x.Insts.length c2] x:=by
  cases x;exact DDecls.shut h0 h1 h2
def KDLeaf:Kind DLeaf:=Kind.iso (Kind.pair Kind.bool (Kind.pair Kind.bool Kind.unit)) fun x=>(x.name,x.num,())
theorem DLeaf.opn {F:PH}{cs:List Value}{x:DLeaf}(h:KDLeaf.R F cs x):cs=[.bool x.name,.bool x.num]:=by
  obtain⟨_,_,rfl,rfl,⟨_,_,rfl,rfl,rfl⟩⟩:=h
  exact rfl
theorem DLeaf.shut {F:PH}{y0:Bool}{y1:Bool}:KDLeaf.R F [.bool y0,.bool y1] (DLeaf.mk y0 y1):=⟨_,_,rfl,rfl,⟨_,_,rfl,rfl,rfl⟩⟩
theorem DLeaf.of {F:PH}{x:DLeaf}:KDLeaf.R F [.bool x.name,.bool x.num] x:=by
  cases x;exact DLeaf.shut
def KDCall:Kind DCall:=Kind.iso (Kind.pair Kind.bool Kind.unit) fun x=>(x.great,())
theorem DCall.opn {F:PH}{cs:List Value}{x:DCall}(h:KDCall.R F cs x):cs=[.bool x.great]:=by
  obtain⟨_,_,rfl,rfl,rfl⟩:=h
  exact rfl
theorem DCall.shut {F:PH}{y0:Bool}:KDCall.R F [.bool y0] (DCall.mk y0):=⟨_,_,rfl,rfl,rfl⟩
theorem DCall.of {F:PH}{x:DCall}:KDCall.R F [.bool x.great] x:=by
  cases x;exact DCall.shut
def KDInner:Kind DInner:=Kind.iso (Kind.pair (Kind.int .i64) (Kind.pair Kind.bool (Kind.pair Kind.bool Kind.unit))) fun x=>(x.kids,x.name,x.names,())
theorem DInner.opn {F:PH}{cs:List Value}{x:DInner}(h:KDInner.R F cs x):cs=[.int .i64 x.kids,.bool x.name,.bool x.names]:=by
  obtain⟨_,_,rfl,rfl,⟨_,_,rfl,rfl,⟨_,_,rfl,rfl,rfl⟩⟩⟩:=h
  exact rfl
theorem DInner.shut {F:PH}{y0:Int}{y1:Bool}{y2:Bool}:KDInner.R F [.int .i64 y0,.bool y1,.bool y2] (DInner.mk y0 y1 y2):=⟨_,_,rfl,rfl,⟨_,_,rfl,rfl,⟨_,_,rfl,rfl,rfl⟩⟩⟩
theorem DInner.of {F:PH}{x:DInner}:KDInner.R F [.int .i64 x.kids,.bool x.name,.bool x.names] x:=by
  cases x;exact DInner.shut
def KDCases:Kind DCases:=Kind.iso Kind.unit fun x=>(())
theorem DCases.opn {F:PH}{cs:List Value}{x:DCases}(h:KDCases.R F cs x):cs=[]:=by
  obtain rfl:=h
  exact rfl
theorem DCases.shut {F:PH}:KDCases.R F [] (DCases.mk):=rfl
theorem DCases.of {F:PH}{x:DCases}:KDCases.R F [] x:=by
  cases x;exact DCases.shut
def INode.R (F:PH) (v:Value):INode→Prop
  |.nil=>v=.nilIface
  |.c182 x=>Ival KDLeaf true 182 F v x
  |.c184 x=>Ival KDCall true 184 F v x
  |.c186 x=>Ival KDInner true 186 F v x
  |.c204 x=>Ival KDCases true 204 F v x
theorem INode.R.mono {F F':PH}(hl:PH.le F F') {v:Value}:∀{x:INode},INode.R F v x→INode.R F' v x
  |.nil,h=>h
  |.c182 _,h=>Ival.mono hl h
  |.c184 _,h=>Ival.mono hl h
  |.c186 _,h=>Ival.mono hl h
  |.c204 _,h=>Ival.mono hl h
theorem INode.on_nil {β:Type}{f0:β}{f182:DLeaf→β}{f184:DCall→β}{f186:DInner→β}{f204:DCases→β}:INode.on .nil f0 f182 f184 f186 f204=f0:=rfl
theorem INode.on_c182 {β:Type}{y:DLeaf}{f0:β}{f182:DLeaf→β}{f184:DCall→β}{f186:DInner→β}{f204:DCases→β}:INode.on (.c182 y) f0 f182 f184 f186 f204=f182 y:=rfl
theorem INode.on_c184 {β:Type}{y:DCall}{f0:β}{f182:DLeaf→β}{f184:DCall→β}{f186:DInner→β}{f204:DCases→β}:INode.on (.c184 y) f0 f182 f184 f186 f204=f184 y:=rfl
theorem INode.on_c186 {β:Type}{y:DInner}{f0:β}{f182:DLeaf→β}{f184:DCall→β}{f186:DInner→β}{f204:DCases→β}:INode.on (.c186 y) f0 f182 f184 f186 f204=f186 y:=rfl
theorem INode.on_c204 {β:Type}{y:DCases}{f0:β}{f182:DLeaf→β}{f184:DCall→β}{f186:DInner→β}{f204:DCases→β}:INode.on (.c204 y) f0 f182 f184 f186 f204=f204 y:=rfl
theorem INode.cases (x:INode):x=.nil∨(∃y,x=.c182 y)∨(∃y,x=.c184 y)∨(∃y,x=.c186 y)∨(∃y,x=.c204 y):=by
  cases x
  · exact .inl rfl
  · exact(.inr (.inl ⟨_,rfl⟩))
  · exact(.inr (.inr (.inl ⟨_,rfl⟩)))
  · exact(.inr (.inr (.inr (.inl ⟨_,rfl⟩))))
  · exact(.inr (.inr (.inr (.inr ⟨_,rfl⟩))))
def KDGoal:Kind DGoal:=Kind.iso (Kind.pair (Kind.sl 16 Kind.str) (Kind.pair KDExpr Kind.unit)) fun x=>(x.Vars,x.E,())
theorem DGoal.opn {F:PH}{cs:List Value}{x:DGoal}(h:KDGoal.R F cs x):∃A0 c0 A1 c1 A2 c2 A3 c3,cs=[.slice A0 x.Vars.length c0,.int .i64 x.E.Op,.string (bs x.E.Name),.int .i64 x.E.N,.slice A1 x.E.Names.length c1,.slice A2 x.E.Kids.length c2,.slice A3 x.E.Alts.length c3]∧Fsl 16 Kind.str F A0 c0 x.Vars∧Fsl 16 Kind.str F A1 c1 x.E.Names∧Fsl 104 KDExpr F A2 c2 x.E.Kids∧Fsl 160 KDAlt F A3 c3 x.E.Alts:=by
  obtain⟨_,_,rfl,⟨A0,c0,rfl,h0⟩,⟨_,_,rfl,g0,rfl⟩⟩:=h
  obtain⟨A1,c1,A2,c2,A3,c3,rfl,h1,h2,h3⟩:=DExpr.opn g0
  exact⟨A0,c0,A1,c1,A2,c2,A3,c3,rfl,h0,h1,h2,h3⟩
theorem DGoal.shut {F:PH}{y0:List (List UInt8)}{y1:DExpr}{A0:Option Addr}{c0:Nat}{A1:Option Addr}{c1:Nat}{A2:Option Addr}{c2:Nat}{A3:Option Addr}{c3:Nat}(h0:Fsl 16 Kind.str F A0 c0 y0) (h1:Fsl 16 Kind.str F A1 c1 y1.Names) (h2:Fsl 104 KDExpr F A2 c2 y1.Kids) (h3:Fsl 160 KDAlt F A3 c3 y1.Alts):KDGoal.R F [.slice A0 y0.length c0,.int .i64 y1.Op,.string (bs y1.Name),.int .i64 y1.N,.slice A1 y1.Names.length c1,.slice A2 y1.Kids.length c2,.slice A3 y1.Alts.length c3] (DGoal.mk y0 y1):=⟨_,_,rfl,⟨_,_,rfl,h0⟩,⟨_,_,rfl,DExpr.of h1 h2 h3,rfl⟩⟩
theorem DGoal.of {F:PH}{x:DGoal}{A0:Option Addr}{c0:Nat}{A1:Option Addr}{c1:Nat}{A2:Option Addr}{c2:Nat}{A3:Option Addr}{c3:Nat}(h0:Fsl 16 Kind.str F A0 c0 x.Vars) (h1:Fsl 16 Kind.str F A1 c1 x.E.Names) (h2:Fsl 104 KDExpr F A2 c2 x.E.Kids) (h3:Fsl 160 KDAlt F A3 c3 x.E.Alts):KDGoal.R F [.slice A0 x.Vars.length c0,.int .i64 x.E.Op,.string (bs x.E.Name),.int .i64 x.E.N,.slice A1 x.E.Names.length c1,.slice A2 x.E.Kids.length c2,.slice A3 x.E.Alts.length c3] x:=by
  cases x;exact DGoal.shut h0 h1 h2 h3
def CDValue:Nat→Kind DValue
  |0=>Kind.no 4
  |n+1=>Kind.iso (Kind.pair (Kind.int .i64) (Kind.pair Kind.str (Kind.pair (Kind.int .i64) (Kind.pair (Kind.sl 56 (CDValue n)) Kind.unit)))) fun x=>(x.Op,x.Name,x.N,x.Kids,())
theorem CDValue_sz:∀n,(CDValue n).sz=4
  |0=>rfl
  |_+1=>rfl
def KDValue:Kind DValue:=Kind.lim CDValue 4 CDValue_sz
theorem CDValue_mono:∀n {F:PH}{cs:List Value}{x:DValue},(CDValue n).R F cs x→(CDValue (n+1)).R F cs x
  |0,_,_,_,h=>h.elim
  |n+1,F,cs,x,⟨_,_,e_0,g0,⟨_,_,e_1,g1,⟨_,_,e_2,g2,⟨_,_,e_3,⟨A0,c0,e0,h0⟩,u⟩⟩⟩⟩=>⟨_,_,e_0,g0,⟨_,_,e_1,g1,⟨_,_,e_2,g2,⟨_,_,e_3,⟨A0,c0,e0,h0.up (CDValue_mono n) (by simp only [CDValue_sz])⟩,u⟩⟩⟩⟩
theorem DValue.opn {F:PH}{cs:List Value}{x:DValue}(h:KDValue.R F cs x):∃A0 c0,cs=[.int .i64 x.Op,.string (bs x.Name),.int .i64 x.N,.slice A0 x.Kids.length c0]∧Fsl 56 KDValue F A0 c0 x.Kids:=by
  obtain⟨n,h⟩:=h
  cases n with
  |zero=>exact h.elim
  |succ n=>
    obtain⟨_,_,rfl,rfl,⟨_,_,rfl,rfl,⟨_,_,rfl,rfl,⟨_,_,rfl,⟨A0,c0,rfl,h0⟩,rfl⟩⟩⟩⟩:=h
    exact⟨A0,c0,rfl,h0.up (fun h=>⟨n,h⟩) (CDValue_sz n)⟩
theorem DValue.shut {F:PH}{y0:Int}{y1:List UInt8}{y2:Int}{y3:List DValue}{A0:Option Addr}{c0:Nat}(h0:Fsl 56 KDValue F A0 c0 y3):KDValue.R F [.int .i64 y0,.string (bs y1),.int .i64 y2,.slice A0 y3.length c0] (DValue.mk y0 y1 y2 y3):=by
  obtain⟨n0,g0⟩:=Fsl.lim (fun n _ _ _ h=>CDValue_mono n h) h0
  have h0:=g0.up (Kind.up_le (C:=CDValue) (fun n _ _ _ h=>CDValue_mono n h) (show n0≤n0 by omega)) (by simp only [CDValue_sz])
  exact⟨n0+1,⟨_,_,rfl,rfl,⟨_,_,rfl,rfl,⟨_,_,rfl,rfl,⟨_,_,rfl,⟨_,_,rfl,h0⟩,rfl⟩⟩⟩⟩⟩
theorem DValue.of {F:PH}{x:DValue}{A0:Option Addr}{c0:Nat}(h0:Fsl 56 KDValue F A0 c0 x.Kids):KDValue.R F [.int .i64 x.Op,.string (bs x.Name),.int .i64 x.N,.slice A0 x.Kids.length c0] x:=by
  cases x;exact DValue.shut h0
def KDAnswer:Kind DAnswer:=Kind.iso (Kind.pair KDValue (Kind.pair (Kind.sl 56 KDValue) Kind.unit)) fun x=>(x.V,x.B,())
theorem DAnswer.opn {F:PH}{cs:List Value}{x:DAnswer}(h:KDAnswer.R F cs x):∃A0 c0 A1 c1,cs=[.int .i64 x.V.Op,.string (bs x.V.Name),.int .i64 x.V.N,.slice A0 x.V.Kids.length c0,.slice A1 x.B.length c1]∧Fsl 56 KDValue F A0 c0 x.V.Kids∧Fsl 56 KDValue F A1 c1 x.B:=by
  obtain⟨_,_,rfl,g0,⟨_,_,rfl,⟨A1,c1,rfl,h1⟩,rfl⟩⟩:=h
  obtain⟨A0,c0,rfl,h0⟩:=DValue.opn g0
  exact⟨A0,c0,A1,c1,rfl,h0,h1⟩
theorem DAnswer.shut {F:PH}{y0:DValue}{y1:List DValue}{A0:Option Addr}{c0:Nat}{A1:Option Addr}{c1:Nat}(h0:Fsl 56 KDValue F A0 c0 y0.Kids) (h1:Fsl 56 KDValue F A1 c1 y1):KDAnswer.R F [.int .i64 y0.Op,.string (bs y0.Name),.int .i64 y0.N,.slice A0 y0.Kids.length c0,.slice A1 y1.length c1] (DAnswer.mk y0 y1):=⟨_,_,rfl,DValue.of h0,⟨_,_,rfl,⟨_,_,rfl,h1⟩,rfl⟩⟩
theorem DAnswer.of {F:PH}{x:DAnswer}{A0:Option Addr}{c0:Nat}{A1:Option Addr}{c1:Nat}(h0:Fsl 56 KDValue F A0 c0 x.V.Kids) (h1:Fsl 56 KDValue F A1 c1 x.B):KDAnswer.R F [.int .i64 x.V.Op,.string (bs x.V.Name),.int .i64 x.V.N,.slice A0 x.V.Kids.length c0,.slice A1 x.B.length c1] x:=by
  cases x;exact DAnswer.shut h0 h1
end Go.Proofs.YtjkcinpmbgcgpaaGreatDoor
