import Derived.Test.YtfbaijpanbjmpaaW0
import Derived.Test.YtfbaijpanbjmpaaW1
import Derived.Test.YtfbaijpanbjmpaaW2
import Derived.Test.YtfbaijpanbjmpaaW3
import Derived.Test.YtfbaijpanbjmpaaSepC
