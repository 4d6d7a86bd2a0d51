/- The table is true of the program (printed). -/
import Derived.Test.YtkajahlgiglliaaGreatDoorNT
import Derived.Test.YtkajahlgiglliaaGreatDoorAm17
import Derived.Test.YtkajahlgiglliaaGreatDoorProg
import Derived.KernelRfl
set_option maxRecDepth 100000
namespace R1
open Go Go.AM

theorem ok3 : trFn Go.Proofs.Tryz.prog 3 = some a3 := by kernel_rfl
theorem hb3 : bodyB Go.Proofs.Tryz.prog 3 = true := by kernel_rfl
theorem ok5 : trFn Go.Proofs.Tryz.prog 5 = some a5 := by kernel_rfl
theorem hb5 : bodyB Go.Proofs.Tryz.prog 5 = true := by kernel_rfl
theorem ok6 : trFn Go.Proofs.Tryz.prog 6 = some a6 := by kernel_rfl
theorem hb6 : bodyB Go.Proofs.Tryz.prog 6 = true := by kernel_rfl
theorem ok7 : trFn Go.Proofs.Tryz.prog 7 = some a7 := by kernel_rfl
theorem hb7 : bodyB Go.Proofs.Tryz.prog 7 = true := by kernel_rfl
theorem ok8 : trFn Go.Proofs.Tryz.prog 8 = some a8 := by kernel_rfl
theorem hb8 : bodyB Go.Proofs.Tryz.prog 8 = true := by kernel_rfl
theorem ok9 : trFn Go.Proofs.Tryz.prog 9 = some a9 := by kernel_rfl
theorem hb9 : bodyB Go.Proofs.Tryz.prog 9 = true := by kernel_rfl
theorem ok10 : trFn Go.Proofs.Tryz.prog 10 = some a10 := by kernel_rfl
theorem hb10 : bodyB Go.Proofs.Tryz.prog 10 = true := by kernel_rfl
theorem ok11 : trFn Go.Proofs.Tryz.prog 11 = some a11 := by kernel_rfl
theorem hb11 : bodyB Go.Proofs.Tryz.prog 11 = true := by kernel_rfl
theorem ok12 : trFn Go.Proofs.Tryz.prog 12 = some a12 := by kernel_rfl
theorem hb12 : bodyB Go.Proofs.Tryz.prog 12 = true := by kernel_rfl
theorem ok13 : trFn Go.Proofs.Tryz.prog 13 = some a13 := by kernel_rfl
theorem hb13 : bodyB Go.Proofs.Tryz.prog 13 = true := by kernel_rfl
theorem ok14 : trFn Go.Proofs.Tryz.prog 14 = some a14 := by kernel_rfl
theorem hb14 : bodyB Go.Proofs.Tryz.prog 14 = true := by kernel_rfl
theorem ok15 : trFn Go.Proofs.Tryz.prog 15 = some a15 := by kernel_rfl
theorem hb15 : bodyB Go.Proofs.Tryz.prog 15 = true := by kernel_rfl
theorem ok16 : trFn Go.Proofs.Tryz.prog 16 = some a16 := by kernel_rfl
theorem hb16 : bodyB Go.Proofs.Tryz.prog 16 = true := by kernel_rfl
theorem ok17 : trFn Go.Proofs.Tryz.prog 17 = some a17 := by kernel_rfl
theorem hb17 : bodyB Go.Proofs.Tryz.prog 17 = true := by kernel_rfl
theorem ok18 : trFn Go.Proofs.Tryz.prog 18 = some a18 := by kernel_rfl
theorem hb18 : bodyB Go.Proofs.Tryz.prog 18 = true := by kernel_rfl
theorem ok19 : trFn Go.Proofs.Tryz.prog 19 = some a19 := by kernel_rfl
theorem hb19 : bodyB Go.Proofs.Tryz.prog 19 = true := by kernel_rfl
theorem ok20 : trFn Go.Proofs.Tryz.prog 20 = some a20 := by kernel_rfl
theorem hb20 : bodyB Go.Proofs.Tryz.prog 20 = true := by kernel_rfl
theorem ok21 : trFn Go.Proofs.Tryz.prog 21 = some a21 := by kernel_rfl
theorem hb21 : bodyB Go.Proofs.Tryz.prog 21 = true := by kernel_rfl
theorem ok22 : trFn Go.Proofs.Tryz.prog 22 = some a22 := by kernel_rfl
theorem hb22 : bodyB Go.Proofs.Tryz.prog 22 = true := by kernel_rfl
theorem ok23 : trFn Go.Proofs.Tryz.prog 23 = some a23 := by kernel_rfl
theorem hb23 : bodyB Go.Proofs.Tryz.prog 23 = true := by kernel_rfl
theorem ok24 : trFn Go.Proofs.Tryz.prog 24 = some a24 := by kernel_rfl
theorem hb24 : bodyB Go.Proofs.Tryz.prog 24 = true := by kernel_rfl
theorem ok25 : trFn Go.Proofs.Tryz.prog 25 = some a25 := by kernel_rfl
theorem hb25 : bodyB Go.Proofs.Tryz.prog 25 = true := by kernel_rfl
theorem ok26 : trFn Go.Proofs.Tryz.prog 26 = some a26 := by kernel_rfl
theorem hb26 : bodyB Go.Proofs.Tryz.prog 26 = true := by kernel_rfl
theorem ok33 : trFn Go.Proofs.Tryz.prog 33 = some a33 := by kernel_rfl
theorem hb33 : bodyB Go.Proofs.Tryz.prog 33 = true := by kernel_rfl
theorem ok35 : trFn Go.Proofs.Tryz.prog 35 = some a35 := by kernel_rfl
theorem hb35 : bodyB Go.Proofs.Tryz.prog 35 = true := by kernel_rfl
theorem ok36 : trFn Go.Proofs.Tryz.prog 36 = some a36 := by kernel_rfl
theorem hb36 : bodyB Go.Proofs.Tryz.prog 36 = true := by kernel_rfl
theorem ok43 : trFn Go.Proofs.Tryz.prog 43 = some a43 := by kernel_rfl
theorem hb43 : bodyB Go.Proofs.Tryz.prog 43 = true := by kernel_rfl
theorem ok44 : trFn Go.Proofs.Tryz.prog 44 = some a44 := by kernel_rfl
theorem hb44 : bodyB Go.Proofs.Tryz.prog 44 = true := by kernel_rfl
theorem ok45 : trFn Go.Proofs.Tryz.prog 45 = some a45 := by kernel_rfl
theorem hb45 : bodyB Go.Proofs.Tryz.prog 45 = true := by kernel_rfl
theorem ok48 : trFn Go.Proofs.Tryz.prog 48 = some a48 := by kernel_rfl
theorem hb48 : bodyB Go.Proofs.Tryz.prog 48 = true := by kernel_rfl
theorem ok52 : trFn Go.Proofs.Tryz.prog 52 = some a52 := by kernel_rfl
theorem hb52 : bodyB Go.Proofs.Tryz.prog 52 = true := by kernel_rfl
theorem ok53 : trFn Go.Proofs.Tryz.prog 53 = some a53 := by kernel_rfl
theorem hb53 : bodyB Go.Proofs.Tryz.prog 53 = true := by kernel_rfl
theorem ok54 : trFn Go.Proofs.Tryz.prog 54 = some a54 := by kernel_rfl
theorem hb54 : bodyB Go.Proofs.Tryz.prog 54 = true := by kernel_rfl
theorem ok55 : trFn Go.Proofs.Tryz.prog 55 = some a55 := by kernel_rfl
theorem hb55 : bodyB Go.Proofs.Tryz.prog 55 = true := by kernel_rfl
theorem ok60 : trFn Go.Proofs.Tryz.prog 60 = some a60 := by kernel_rfl
theorem hb60 : bodyB Go.Proofs.Tryz.prog 60 = true := by kernel_rfl
theorem ok64 : trFn Go.Proofs.Tryz.prog 64 = some a64 := by kernel_rfl
theorem hb64 : bodyB Go.Proofs.Tryz.prog 64 = true := by kernel_rfl
theorem ok65 : trFn Go.Proofs.Tryz.prog 65 = some a65 := by kernel_rfl
theorem hb65 : bodyB Go.Proofs.Tryz.prog 65 = true := by kernel_rfl
theorem ok66 : trFn Go.Proofs.Tryz.prog 66 = some a66 := by kernel_rfl
theorem hb66 : bodyB Go.Proofs.Tryz.prog 66 = true := by kernel_rfl
theorem ok87 : trFn Go.Proofs.Tryz.prog 87 = some a87 := by kernel_rfl
theorem hb87 : bodyB Go.Proofs.Tryz.prog 87 = true := by kernel_rfl
theorem ok88 : trFn Go.Proofs.Tryz.prog 88 = some a88 := by kernel_rfl
theorem hb88 : bodyB Go.Proofs.Tryz.prog 88 = true := by kernel_rfl
theorem ok89 : trFn Go.Proofs.Tryz.prog 89 = some a89 := by kernel_rfl
theorem hb89 : bodyB Go.Proofs.Tryz.prog 89 = true := by kernel_rfl
theorem ok90 : trFn Go.Proofs.Tryz.prog 90 = some a90 := by kernel_rfl
theorem hb90 : bodyB Go.Proofs.Tryz.prog 90 = true := by kernel_rfl
theorem ok97 : trFn Go.Proofs.Tryz.prog 97 = some a97 := by kernel_rfl
theorem hb97 : bodyB Go.Proofs.Tryz.prog 97 = true := by kernel_rfl
theorem ok98 : trFn Go.Proofs.Tryz.prog 98 = some a98 := by kernel_rfl
theorem hb98 : bodyB Go.Proofs.Tryz.prog 98 = true := by kernel_rfl
theorem ok101 : trFn Go.Proofs.Tryz.prog 101 = some a101 := by kernel_rfl
theorem hb101 : bodyB Go.Proofs.Tryz.prog 101 = true := by kernel_rfl
theorem ok111 : trFn Go.Proofs.Tryz.prog 111 = some a111 := by kernel_rfl
theorem hb111 : bodyB Go.Proofs.Tryz.prog 111 = true := by kernel_rfl
theorem ok112 : trFn Go.Proofs.Tryz.prog 112 = some a112 := by kernel_rfl
theorem hb112 : bodyB Go.Proofs.Tryz.prog 112 = true := by kernel_rfl
theorem ok113 : trFn Go.Proofs.Tryz.prog 113 = some a113 := by kernel_rfl
theorem hb113 : bodyB Go.Proofs.Tryz.prog 113 = true := by kernel_rfl
theorem ok114 : trFn Go.Proofs.Tryz.prog 114 = some a114 := by kernel_rfl
theorem hb114 : bodyB Go.Proofs.Tryz.prog 114 = true := by kernel_rfl
theorem ok115 : trFn Go.Proofs.Tryz.prog 115 = some a115 := by kernel_rfl
theorem hb115 : bodyB Go.Proofs.Tryz.prog 115 = true := by kernel_rfl
theorem ok116 : trFn Go.Proofs.Tryz.prog 116 = some a116 := by kernel_rfl
theorem hb116 : bodyB Go.Proofs.Tryz.prog 116 = true := by kernel_rfl
theorem ok117 : trFn Go.Proofs.Tryz.prog 117 = some a117 := by kernel_rfl
theorem hb117 : bodyB Go.Proofs.Tryz.prog 117 = true := by kernel_rfl
theorem ok118 : trFn Go.Proofs.Tryz.prog 118 = some a118 := by kernel_rfl
theorem hb118 : bodyB Go.Proofs.Tryz.prog 118 = true := by kernel_rfl
theorem ok119 : trFn Go.Proofs.Tryz.prog 119 = some a119 := by kernel_rfl
theorem hb119 : bodyB Go.Proofs.Tryz.prog 119 = true := by kernel_rfl
theorem ok120 : trFn Go.Proofs.Tryz.prog 120 = some a120 := by kernel_rfl
theorem hb120 : bodyB Go.Proofs.Tryz.prog 120 = true := by kernel_rfl
theorem ok121 : trFn Go.Proofs.Tryz.prog 121 = some a121 := by kernel_rfl
theorem hb121 : bodyB Go.Proofs.Tryz.prog 121 = true := by kernel_rfl
theorem ok122 : trFn Go.Proofs.Tryz.prog 122 = some a122 := by kernel_rfl
theorem hb122 : bodyB Go.Proofs.Tryz.prog 122 = true := by kernel_rfl
theorem ok123 : trFn Go.Proofs.Tryz.prog 123 = some a123 := by kernel_rfl
theorem hb123 : bodyB Go.Proofs.Tryz.prog 123 = true := by kernel_rfl
theorem ok124 : trFn Go.Proofs.Tryz.prog 124 = some a124 := by kernel_rfl
theorem hb124 : bodyB Go.Proofs.Tryz.prog 124 = true := by kernel_rfl
theorem ok125 : trFn Go.Proofs.Tryz.prog 125 = some a125 := by kernel_rfl
theorem hb125 : bodyB Go.Proofs.Tryz.prog 125 = true := by kernel_rfl
theorem ok126 : trFn Go.Proofs.Tryz.prog 126 = some a126 := by kernel_rfl
theorem hb126 : bodyB Go.Proofs.Tryz.prog 126 = true := by kernel_rfl
theorem ok127 : trFn Go.Proofs.Tryz.prog 127 = some a127 := by kernel_rfl
theorem hb127 : bodyB Go.Proofs.Tryz.prog 127 = true := by kernel_rfl
theorem ok128 : trFn Go.Proofs.Tryz.prog 128 = some a128 := by kernel_rfl
theorem hb128 : bodyB Go.Proofs.Tryz.prog 128 = true := by kernel_rfl
theorem ok129 : trFn Go.Proofs.Tryz.prog 129 = some a129 := by kernel_rfl
theorem hb129 : bodyB Go.Proofs.Tryz.prog 129 = true := by kernel_rfl
theorem ok130 : trFn Go.Proofs.Tryz.prog 130 = some a130 := by kernel_rfl
theorem hb130 : bodyB Go.Proofs.Tryz.prog 130 = true := by kernel_rfl
theorem ok131 : trFn Go.Proofs.Tryz.prog 131 = some a131 := by kernel_rfl
theorem hb131 : bodyB Go.Proofs.Tryz.prog 131 = true := by kernel_rfl
theorem ok132 : trFn Go.Proofs.Tryz.prog 132 = some a132 := by kernel_rfl
theorem hb132 : bodyB Go.Proofs.Tryz.prog 132 = true := by kernel_rfl
theorem ok133 : trFn Go.Proofs.Tryz.prog 133 = some a133 := by kernel_rfl
theorem hb133 : bodyB Go.Proofs.Tryz.prog 133 = true := by kernel_rfl
theorem ok134 : trFn Go.Proofs.Tryz.prog 134 = some a134 := by kernel_rfl
theorem hb134 : bodyB Go.Proofs.Tryz.prog 134 = true := by kernel_rfl
theorem ok135 : trFn Go.Proofs.Tryz.prog 135 = some a135 := by kernel_rfl
theorem hb135 : bodyB Go.Proofs.Tryz.prog 135 = true := by kernel_rfl
theorem ok136 : trFn Go.Proofs.Tryz.prog 136 = some a136 := by kernel_rfl
theorem hb136 : bodyB Go.Proofs.Tryz.prog 136 = true := by kernel_rfl
theorem ok137 : trFn Go.Proofs.Tryz.prog 137 = some a137 := by kernel_rfl
theorem hb137 : bodyB Go.Proofs.Tryz.prog 137 = true := by kernel_rfl
theorem ok138 : trFn Go.Proofs.Tryz.prog 138 = some a138 := by kernel_rfl
theorem hb138 : bodyB Go.Proofs.Tryz.prog 138 = true := by kernel_rfl
theorem ok146 : trFn Go.Proofs.Tryz.prog 146 = some a146 := by kernel_rfl
theorem hb146 : bodyB Go.Proofs.Tryz.prog 146 = true := by kernel_rfl
theorem ok147 : trFn Go.Proofs.Tryz.prog 147 = some a147 := by kernel_rfl
theorem hb147 : bodyB Go.Proofs.Tryz.prog 147 = true := by kernel_rfl
theorem ok148 : trFn Go.Proofs.Tryz.prog 148 = some a148 := by kernel_rfl
theorem hb148 : bodyB Go.Proofs.Tryz.prog 148 = true := by kernel_rfl
theorem ok149 : trFn Go.Proofs.Tryz.prog 149 = some a149 := by kernel_rfl
theorem hb149 : bodyB Go.Proofs.Tryz.prog 149 = true := by kernel_rfl
theorem ok150 : trFn Go.Proofs.Tryz.prog 150 = some a150 := by kernel_rfl
theorem hb150 : bodyB Go.Proofs.Tryz.prog 150 = true := by kernel_rfl
theorem ok152 : trFn Go.Proofs.Tryz.prog 152 = some a152 := by kernel_rfl
theorem hb152 : bodyB Go.Proofs.Tryz.prog 152 = true := by kernel_rfl
theorem ok153 : trFn Go.Proofs.Tryz.prog 153 = some a153 := by kernel_rfl
theorem hb153 : bodyB Go.Proofs.Tryz.prog 153 = true := by kernel_rfl
theorem ok154 : trFn Go.Proofs.Tryz.prog 154 = some a154 := by kernel_rfl
theorem hb154 : bodyB Go.Proofs.Tryz.prog 154 = true := by kernel_rfl
theorem ok170 : trFn Go.Proofs.Tryz.prog 170 = some a170 := by kernel_rfl
theorem hb170 : bodyB Go.Proofs.Tryz.prog 170 = true := by kernel_rfl
theorem ok174 : trFn Go.Proofs.Tryz.prog 174 = some a174 := by kernel_rfl
theorem hb174 : bodyB Go.Proofs.Tryz.prog 174 = true := by kernel_rfl
theorem ok176 : trFn Go.Proofs.Tryz.prog 176 = some a176 := by kernel_rfl
theorem hb176 : bodyB Go.Proofs.Tryz.prog 176 = true := by kernel_rfl
theorem ok181 : trFn Go.Proofs.Tryz.prog 181 = some a181 := by kernel_rfl
theorem hb181 : bodyB Go.Proofs.Tryz.prog 181 = true := by kernel_rfl
theorem ok183 : trFn Go.Proofs.Tryz.prog 183 = some a183 := by kernel_rfl
theorem hb183 : bodyB Go.Proofs.Tryz.prog 183 = true := by kernel_rfl
theorem ok184 : trFn Go.Proofs.Tryz.prog 184 = some a184 := by kernel_rfl
theorem hb184 : bodyB Go.Proofs.Tryz.prog 184 = true := by kernel_rfl
theorem ok185 : trFn Go.Proofs.Tryz.prog 185 = some a185 := by kernel_rfl
theorem hb185 : bodyB Go.Proofs.Tryz.prog 185 = true := by kernel_rfl
theorem ok186 : trFn Go.Proofs.Tryz.prog 186 = some a186 := by kernel_rfl
theorem hb186 : bodyB Go.Proofs.Tryz.prog 186 = true := by kernel_rfl
theorem ok187 : trFn Go.Proofs.Tryz.prog 187 = some a187 := by kernel_rfl
theorem hb187 : bodyB Go.Proofs.Tryz.prog 187 = true := by kernel_rfl
theorem ok202 : trFn Go.Proofs.Tryz.prog 202 = some a202 := by kernel_rfl
theorem hb202 : bodyB Go.Proofs.Tryz.prog 202 = true := by kernel_rfl
theorem ok203 : trFn Go.Proofs.Tryz.prog 203 = some a203 := by kernel_rfl
theorem hb203 : bodyB Go.Proofs.Tryz.prog 203 = true := by kernel_rfl
theorem ok205 : trFn Go.Proofs.Tryz.prog 205 = some a205 := by kernel_rfl
theorem hb205 : bodyB Go.Proofs.Tryz.prog 205 = true := by kernel_rfl
theorem ok206 : trFn Go.Proofs.Tryz.prog 206 = some a206 := by kernel_rfl
theorem hb206 : bodyB Go.Proofs.Tryz.prog 206 = true := by kernel_rfl
theorem ok207 : trFn Go.Proofs.Tryz.prog 207 = some a207 := by kernel_rfl
theorem hb207 : bodyB Go.Proofs.Tryz.prog 207 = true := by kernel_rfl
theorem ok208 : trFn Go.Proofs.Tryz.prog 208 = some a208 := by kernel_rfl
theorem hb208 : bodyB Go.Proofs.Tryz.prog 208 = true := by kernel_rfl
theorem ok215 : trFn Go.Proofs.Tryz.prog 215 = some a215 := by kernel_rfl
theorem hb215 : bodyB Go.Proofs.Tryz.prog 215 = true := by kernel_rfl
theorem ok216 : trFn Go.Proofs.Tryz.prog 216 = some a216 := by kernel_rfl
theorem hb216 : bodyB Go.Proofs.Tryz.prog 216 = true := by kernel_rfl
theorem ok229 : trFn Go.Proofs.Tryz.prog 229 = some a229 := by kernel_rfl
theorem hb229 : bodyB Go.Proofs.Tryz.prog 229 = true := by kernel_rfl
theorem ok230 : trFn Go.Proofs.Tryz.prog 230 = some a230 := by kernel_rfl
theorem hb230 : bodyB Go.Proofs.Tryz.prog 230 = true := by kernel_rfl
theorem ok231 : trFn Go.Proofs.Tryz.prog 231 = some a231 := by kernel_rfl
theorem hb231 : bodyB Go.Proofs.Tryz.prog 231 = true := by kernel_rfl
theorem ok232 : trFn Go.Proofs.Tryz.prog 232 = some a232 := by kernel_rfl
theorem hb232 : bodyB Go.Proofs.Tryz.prog 232 = true := by kernel_rfl
theorem ok233 : trFn Go.Proofs.Tryz.prog 233 = some a233 := by kernel_rfl
theorem hb233 : bodyB Go.Proofs.Tryz.prog 233 = true := by kernel_rfl
theorem ok234 : trFn Go.Proofs.Tryz.prog 234 = some a234 := by kernel_rfl
theorem hb234 : bodyB Go.Proofs.Tryz.prog 234 = true := by kernel_rfl
theorem ok235 : trFn Go.Proofs.Tryz.prog 235 = some a235 := by kernel_rfl
theorem hb235 : bodyB Go.Proofs.Tryz.prog 235 = true := by kernel_rfl
theorem ok236 : trFn Go.Proofs.Tryz.prog 236 = some a236 := by kernel_rfl
theorem hb236 : bodyB Go.Proofs.Tryz.prog 236 = true := by kernel_rfl
theorem ok237 : trFn Go.Proofs.Tryz.prog 237 = some a237 := by kernel_rfl
theorem hb237 : bodyB Go.Proofs.Tryz.prog 237 = true := by kernel_rfl
theorem ok238 : trFn Go.Proofs.Tryz.prog 238 = some a238 := by kernel_rfl
theorem hb238 : bodyB Go.Proofs.Tryz.prog 238 = true := by kernel_rfl
theorem ok239 : trFn Go.Proofs.Tryz.prog 239 = some a239 := by kernel_rfl
theorem hb239 : bodyB Go.Proofs.Tryz.prog 239 = true := by kernel_rfl
theorem ok240 : trFn Go.Proofs.Tryz.prog 240 = some a240 := by kernel_rfl
theorem hb240 : bodyB Go.Proofs.Tryz.prog 240 = true := by kernel_rfl
theorem ok241 : trFn Go.Proofs.Tryz.prog 241 = some a241 := by kernel_rfl
theorem hb241 : bodyB Go.Proofs.Tryz.prog 241 = true := by kernel_rfl
theorem ok242 : trFn Go.Proofs.Tryz.prog 242 = some a242 := by kernel_rfl
theorem hb242 : bodyB Go.Proofs.Tryz.prog 242 = true := by kernel_rfl
theorem ok254 : trFn Go.Proofs.Tryz.prog 254 = some a254 := by kernel_rfl
theorem hb254 : bodyB Go.Proofs.Tryz.prog 254 = true := by kernel_rfl
theorem ok257 : trFn Go.Proofs.Tryz.prog 257 = some a257 := by kernel_rfl
theorem hb257 : bodyB Go.Proofs.Tryz.prog 257 = true := by kernel_rfl
theorem ok259 : trFn Go.Proofs.Tryz.prog 259 = some a259 := by kernel_rfl
theorem hb259 : bodyB Go.Proofs.Tryz.prog 259 = true := by kernel_rfl
theorem ok260 : trFn Go.Proofs.Tryz.prog 260 = some a260 := by kernel_rfl
theorem hb260 : bodyB Go.Proofs.Tryz.prog 260 = true := by kernel_rfl
theorem ok264 : trFn Go.Proofs.Tryz.prog 264 = some a264 := by kernel_rfl
theorem hb264 : bodyB Go.Proofs.Tryz.prog 264 = true := by kernel_rfl
theorem ok269 : trFn Go.Proofs.Tryz.prog 269 = some a269 := by kernel_rfl
theorem hb269 : bodyB Go.Proofs.Tryz.prog 269 = true := by kernel_rfl
theorem ok270 : trFn Go.Proofs.Tryz.prog 270 = some a270 := by kernel_rfl
theorem hb270 : bodyB Go.Proofs.Tryz.prog 270 = true := by kernel_rfl
theorem ok271 : trFn Go.Proofs.Tryz.prog 271 = some a271 := by kernel_rfl
theorem hb271 : bodyB Go.Proofs.Tryz.prog 271 = true := by kernel_rfl
theorem ok276 : trFn Go.Proofs.Tryz.prog 276 = some a276 := by kernel_rfl
theorem hb276 : bodyB Go.Proofs.Tryz.prog 276 = true := by kernel_rfl
theorem ok277 : trFn Go.Proofs.Tryz.prog 277 = some a277 := by kernel_rfl
theorem hb277 : bodyB Go.Proofs.Tryz.prog 277 = true := by kernel_rfl
theorem ok283 : trFn Go.Proofs.Tryz.prog 283 = some a283 := by kernel_rfl
theorem hb283 : bodyB Go.Proofs.Tryz.prog 283 = true := by kernel_rfl
theorem ok286 : trFn Go.Proofs.Tryz.prog 286 = some a286 := by kernel_rfl
theorem hb286 : bodyB Go.Proofs.Tryz.prog 286 = true := by kernel_rfl
theorem ok287 : trFn Go.Proofs.Tryz.prog 287 = some a287 := by kernel_rfl
theorem hb287 : bodyB Go.Proofs.Tryz.prog 287 = true := by kernel_rfl
theorem ok294 : trFn Go.Proofs.Tryz.prog 294 = some a294 := by kernel_rfl
theorem hb294 : bodyB Go.Proofs.Tryz.prog 294 = true := by kernel_rfl
theorem ok295 : trFn Go.Proofs.Tryz.prog 295 = some a295 := by kernel_rfl
theorem hb295 : bodyB Go.Proofs.Tryz.prog 295 = true := by kernel_rfl
theorem ok308 : trFn Go.Proofs.Tryz.prog 308 = some a308 := by kernel_rfl
theorem hb308 : bodyB Go.Proofs.Tryz.prog 308 = true := by kernel_rfl
theorem ok309 : trFn Go.Proofs.Tryz.prog 309 = some a309 := by kernel_rfl
theorem hb309 : bodyB Go.Proofs.Tryz.prog 309 = true := by kernel_rfl
theorem ok314 : trFn Go.Proofs.Tryz.prog 314 = some a314 := by kernel_rfl
theorem hb314 : bodyB Go.Proofs.Tryz.prog 314 = true := by kernel_rfl
theorem ok318 : trFn Go.Proofs.Tryz.prog 318 = some a318 := by kernel_rfl
theorem hb318 : bodyB Go.Proofs.Tryz.prog 318 = true := by kernel_rfl
theorem ok327 : trFn Go.Proofs.Tryz.prog 327 = some a327 := by kernel_rfl
theorem hb327 : bodyB Go.Proofs.Tryz.prog 327 = true := by kernel_rfl
theorem ok328 : trFn Go.Proofs.Tryz.prog 328 = some a328 := by kernel_rfl
theorem hb328 : bodyB Go.Proofs.Tryz.prog 328 = true := by kernel_rfl
theorem ok340 : trFn Go.Proofs.Tryz.prog 340 = some a340 := by kernel_rfl
theorem hb340 : bodyB Go.Proofs.Tryz.prog 340 = true := by kernel_rfl
theorem ok344 : trFn Go.Proofs.Tryz.prog 344 = some a344 := by kernel_rfl
theorem hb344 : bodyB Go.Proofs.Tryz.prog 344 = true := by kernel_rfl
theorem ok345 : trFn Go.Proofs.Tryz.prog 345 = some a345 := by kernel_rfl
theorem hb345 : bodyB Go.Proofs.Tryz.prog 345 = true := by kernel_rfl
theorem ok346 : trFn Go.Proofs.Tryz.prog 346 = some a346 := by kernel_rfl
theorem hb346 : bodyB Go.Proofs.Tryz.prog 346 = true := by kernel_rfl
theorem ok354 : trFn Go.Proofs.Tryz.prog 354 = some a354 := by kernel_rfl
theorem hb354 : bodyB Go.Proofs.Tryz.prog 354 = true := by kernel_rfl

theorem tblC_at (f : FuncId) : OkAt Go.Proofs.Tryz.prog f (tblC f) := (OkAt.branch (OkAt.branch (OkAt.branch (OkAt.branch (OkAt.branch (OkAt.branch (OkAt.branch (OkAt.leaf ok3 hb3) (OkAt.leaf ok5 hb5)) (OkAt.branch (OkAt.leaf ok6 hb6) (OkAt.leaf ok7 hb7))) (OkAt.branch (OkAt.branch (OkAt.leaf ok8 hb8) (OkAt.leaf ok9 hb9)) (OkAt.branch (OkAt.leaf ok10 hb10) (OkAt.leaf ok11 hb11)))) (OkAt.branch (OkAt.branch (OkAt.branch (OkAt.leaf ok12 hb12) (OkAt.leaf ok13 hb13)) (OkAt.branch (OkAt.leaf ok14 hb14) (OkAt.leaf ok15 hb15))) (OkAt.branch (OkAt.branch (OkAt.leaf ok16 hb16) (OkAt.leaf ok17 hb17)) (OkAt.branch (OkAt.leaf ok18 hb18) (OkAt.branch (OkAt.leaf ok19 hb19) (OkAt.leaf ok20 hb20)))))) (OkAt.branch (OkAt.branch (OkAt.branch (OkAt.branch (OkAt.leaf ok21 hb21) (OkAt.leaf ok22 hb22)) (OkAt.branch (OkAt.leaf ok23 hb23) (OkAt.leaf ok24 hb24))) (OkAt.branch (OkAt.branch (OkAt.leaf ok25 hb25) (OkAt.leaf ok26 hb26)) (OkAt.branch (OkAt.leaf ok33 hb33) (OkAt.leaf ok35 hb35)))) (OkAt.branch (OkAt.branch (OkAt.branch (OkAt.leaf ok36 hb36) (OkAt.leaf ok43 hb43)) (OkAt.branch (OkAt.leaf ok44 hb44) (OkAt.leaf ok45 hb45))) (OkAt.branch (OkAt.branch (OkAt.leaf ok48 hb48) (OkAt.leaf ok52 hb52)) (OkAt.branch (OkAt.leaf ok53 hb53) (OkAt.branch (OkAt.leaf ok54 hb54) (OkAt.leaf ok55 hb55))))))) (OkAt.branch (OkAt.branch (OkAt.branch (OkAt.branch (OkAt.branch (OkAt.leaf ok60 hb60) (OkAt.leaf ok64 hb64)) (OkAt.branch (OkAt.leaf ok65 hb65) (OkAt.leaf ok66 hb66))) (OkAt.branch (OkAt.branch (OkAt.leaf ok87 hb87) (OkAt.leaf ok88 hb88)) (OkAt.branch (OkAt.leaf ok89 hb89) (OkAt.leaf ok90 hb90)))) (OkAt.branch (OkAt.branch (OkAt.branch (OkAt.leaf ok97 hb97) (OkAt.leaf ok98 hb98)) (OkAt.branch (OkAt.leaf ok101 hb101) (OkAt.leaf ok111 hb111))) (OkAt.branch (OkAt.branch (OkAt.leaf ok112 hb112) (OkAt.leaf ok113 hb113)) (OkAt.branch (OkAt.leaf ok114 hb114) (OkAt.branch (OkAt.leaf ok115 hb115) (OkAt.leaf ok116 hb116)))))) (OkAt.branch (OkAt.branch (OkAt.branch (OkAt.branch (OkAt.leaf ok117 hb117) (OkAt.leaf ok118 hb118)) (OkAt.branch (OkAt.leaf ok119 hb119) (OkAt.leaf ok120 hb120))) (OkAt.branch (OkAt.branch (OkAt.leaf ok121 hb121) (OkAt.leaf ok122 hb122)) (OkAt.branch (OkAt.leaf ok123 hb123) (OkAt.branch (OkAt.leaf ok124 hb124) (OkAt.leaf ok125 hb125))))) (OkAt.branch (OkAt.branch (OkAt.branch (OkAt.leaf ok126 hb126) (OkAt.leaf ok127 hb127)) (OkAt.branch (OkAt.leaf ok128 hb128) (OkAt.leaf ok129 hb129))) (OkAt.branch (OkAt.branch (OkAt.leaf ok130 hb130) (OkAt.leaf ok131 hb131)) (OkAt.branch (OkAt.leaf ok132 hb132) (OkAt.branch (OkAt.leaf ok133 hb133) (OkAt.leaf ok134 hb134)))))))) (OkAt.branch (OkAt.branch (OkAt.branch (OkAt.branch (OkAt.branch (OkAt.branch (OkAt.leaf ok135 hb135) (OkAt.leaf ok136 hb136)) (OkAt.branch (OkAt.leaf ok137 hb137) (OkAt.leaf ok138 hb138))) (OkAt.branch (OkAt.branch (OkAt.leaf ok146 hb146) (OkAt.leaf ok147 hb147)) (OkAt.branch (OkAt.leaf ok148 hb148) (OkAt.leaf ok149 hb149)))) (OkAt.branch (OkAt.branch (OkAt.branch (OkAt.leaf ok150 hb150) (OkAt.leaf ok152 hb152)) (OkAt.branch (OkAt.leaf ok153 hb153) (OkAt.leaf ok154 hb154))) (OkAt.branch (OkAt.branch (OkAt.leaf ok170 hb170) (OkAt.leaf ok174 hb174)) (OkAt.branch (OkAt.leaf ok176 hb176) (OkAt.branch (OkAt.leaf ok181 hb181) (OkAt.leaf ok183 hb183)))))) (OkAt.branch (OkAt.branch (OkAt.branch (OkAt.branch (OkAt.leaf ok184 hb184) (OkAt.leaf ok185 hb185)) (OkAt.branch (OkAt.leaf ok186 hb186) (OkAt.leaf ok187 hb187))) (OkAt.branch (OkAt.branch (OkAt.leaf ok202 hb202) (OkAt.leaf ok203 hb203)) (OkAt.branch (OkAt.leaf ok205 hb205) (OkAt.leaf ok206 hb206)))) (OkAt.branch (OkAt.branch (OkAt.branch (OkAt.leaf ok207 hb207) (OkAt.leaf ok208 hb208)) (OkAt.branch (OkAt.leaf ok215 hb215) (OkAt.leaf ok216 hb216))) (OkAt.branch (OkAt.branch (OkAt.leaf ok229 hb229) (OkAt.leaf ok230 hb230)) (OkAt.branch (OkAt.leaf ok231 hb231) (OkAt.branch (OkAt.leaf ok232 hb232) (OkAt.leaf ok233 hb233))))))) (OkAt.branch (OkAt.branch (OkAt.branch (OkAt.branch (OkAt.branch (OkAt.leaf ok234 hb234) (OkAt.leaf ok235 hb235)) (OkAt.branch (OkAt.leaf ok236 hb236) (OkAt.leaf ok237 hb237))) (OkAt.branch (OkAt.branch (OkAt.leaf ok238 hb238) (OkAt.leaf ok239 hb239)) (OkAt.branch (OkAt.leaf ok240 hb240) (OkAt.leaf ok241 hb241)))) (OkAt.branch (OkAt.branch (OkAt.branch (OkAt.leaf ok242 hb242) (OkAt.leaf ok254 hb254)) (OkAt.branch (OkAt.leaf ok257 hb257) (OkAt.leaf ok259 hb259))) (OkAt.branch (OkAt.branch (OkAt.leaf ok260 hb260) (OkAt.leaf ok264 hb264)) (OkAt.branch (OkAt.leaf ok269 hb269) (OkAt.branch (OkAt.leaf ok270 hb270) (OkAt.leaf ok271 hb271)))))) (OkAt.branch (OkAt.branch (OkAt.branch (OkAt.branch (OkAt.leaf ok276 hb276) (OkAt.leaf ok277 hb277)) (OkAt.branch (OkAt.leaf ok283 hb283) (OkAt.leaf ok286 hb286))) (OkAt.branch (OkAt.branch (OkAt.leaf ok287 hb287) (OkAt.leaf ok294 hb294)) (OkAt.branch (OkAt.leaf ok295 hb295) (OkAt.branch (OkAt.leaf ok308 hb308) (OkAt.leaf ok309 hb309))))) (OkAt.branch (OkAt.branch (OkAt.branch (OkAt.leaf ok314 hb314) (OkAt.leaf ok318 hb318)) (OkAt.branch (OkAt.leaf ok327 hb327) (OkAt.leaf ok328 hb328))) (OkAt.branch (OkAt.branch (OkAt.leaf ok340 hb340) (OkAt.leaf ok344 hb344)) (OkAt.branch (OkAt.leaf ok345 hb345) (OkAt.branch (OkAt.leaf ok346 hb346) (OkAt.leaf ok354 hb354)))))))))
theorem tblC_ok : TableOk Go.Proofs.Tryz.prog tblC := fun f d h => tblC_at f d h

end R1
